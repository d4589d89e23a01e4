/- Lists of numbers in few bytes: reading the other two forms. -/
import Derived.Test.YtdclhgcgpcddlaaIntsG
namespace Go.Proofs.Ytdclhgcgpcddlaa
open Go Go.Vc Go.RowKit

namespace L6
/-- What was unpacked is packed again as it was. -/
theorem pack_un {b : List UInt8} {n w : Int} (h : unE b n w = 0) : ((unL b n w).length : Int) = n ∧ packE (unL b n w) w = 0 ∧ packB (unL b n w) w = b := by
  unfold unE at h
  by_cases hok : unOk b n w = true
  · rw [if_pos hok] at h
    by_cases hf : unFit b n w = true
    · have hs : (0 ≤ n ∧ n ≤ 4096) ∧ 0 ≤ w ∧ w ≤ 64 := of_decide_eq_true hok
      obtain ⟨u, rfl⟩ := Int.eq_ofNat_of_zero_le hs.2.1
      obtain ⟨n, rfl⟩ := Int.eq_ofNat_of_zero_le hs.1.1
      simp only [unFit, Int.toNat_natCast, Bool.and_eq_true, decide_eq_true_eq] at hf
      have hL : unL b n u = digits u n (ofBytes b) := by simp only [unL, hok, unFit, Int.toNat_natCast, hf.1, hf.2, decide_true, Bool.and_self, if_true]
      have hyes : packOk (digits u n (ofBytes b)) u = true := by rw [packOk_iff, digits_length]; exact ⟨by omega, by omega, by omega, widthN_le.2 (by simpa using digits_lt)⟩
      rw [hL]
      refine ⟨by rw [digits_length], by simp [packE, hyes], ?_⟩
      simp only [packB, hyes, if_true, digits_length, Int.toNat_natCast]
      rw [value_digits, Nat.mul_comm u n, Nat.mod_eq_of_lt hf.2, ← hf.1, bytesOf_ofBytes]
    · rw [if_neg hf] at h; cases h
  · rw [if_neg hok] at h; cases h
theorem un_err {b : List UInt8} {n w : Int} (h : unE b n w ≠ 0) : unL b n w = [] := by
  unfold unE at h
  unfold unL
  by_cases hok : unOk b n w = true
  · rw [if_pos hok] at h
    by_cases hf : unFit b n w = true
    · rw [if_pos hf] at h; exact absurd rfl h
    · rw [if_neg]; simp [hok, hf]
  · rw [if_neg]; simp [hok]
/-- What was packed is unpacked as it was. -/
theorem un_pack {l : List Nat} {w : Int} (h : packE l w = 0) : unE (packB l w) l.length w = 0 ∧ unL (packB l w) l.length w = l := by
  unfold packE at h
  by_cases hok : packOk l w = true
  · obtain ⟨h1, h2, h3, h4⟩ := packOk_iff.1 hok
    obtain ⟨u, rfl⟩ := Int.eq_ofNat_of_zero_le h2
    rw [Int.toNat_natCast] at h4
    have hfit : ∀ x ∈ l, x < 2 ^ u := widthN_le.1 h4
    have hlt := value_lt hfit
    have hB : packB l u = bytesOf ((l.length * u + 7) / 8) (value u l) := by simp [packB, hok]
    have hv : ofBytes (packB l u) = value u l := by
      rw [hB, ofBytes_bytesOf, Nat.mod_eq_of_lt]
      exact Nat.lt_of_lt_of_le hlt (Nat.pow_le_pow_right (by decide) (by rw [Nat.mul_comm u]; omega))
    have hu : unOk (packB l u) l.length u = true := decide_eq_true (by omega)
    have hf : unFit (packB l u) l.length u = true := by
      simp only [unFit, Int.toNat_natCast, Bool.and_eq_true, decide_eq_true_eq, hv]
      exact ⟨by rw [hB, bytesOf_length], by rw [Nat.mul_comm]; exact hlt⟩
    refine ⟨by simp [unE, hu, hf], ?_⟩
    simp only [unL, hu, hf, Bool.and_self, if_true, Int.toNat_natCast, hv]
    exact digits_value hfit
  · rw [if_neg hok] at h; cases h

end L6

/-- A slice's end. -/
theorem _root_.Go.Vc.InB.tail {w : World} {p : Option Addr} {n c : Nat} {b : List UInt8} (h : InB w p n c b) {k : Nat} (hk : k ≤ n) : InB w (slBase p k c 1) (n - k) (c - k) (b.drop k) := by
  have hcap := h.cap
  have hlen := h.len
  have := h.lies.slice k n c 1 hcap.1
  rw [Nat.mul_one, Nat.mul_one, vB_take, vB_drop, List.take_of_length_le (by omega)] at this
  exact ⟨by rw [List.length_drop]; omega, by omega, this, fun e => by have := h.nil (slBase_none e); omega⟩

/-- What the bytes of the last two forms are. -/
theorem says_tight {b : List UInt8} {f : Nat} {n : Int} {l : List Int} (h : Says b f n l) (hf : f = 2 ∨ f = 3) (hl : l ≠ []) (hn : n ≤ 4096) :
    ∃ x s, b = (UInt8.ofNat f :: sgn x) ++ (UInt8.ofNat (widthN s) :: packB s (widthN s : Int)) ∧ i64B x ∧ widthN s ≤ 64 ∧ packE s (widthN s : Int) = 0 ∧ (f = 2 → x = l.getD 0 0 ∧ s = stepsL l) ∧ (f = 3 → x = lowL l ∧ s = frameL l) := by
  have hlen := h.len
  rcases hf with rfl | rfl
  · have h64 : widthN (stepsL l) ≤ 64 := widthN_le.2 stepsL_lt
    refine ⟨l.getD 0 0, stepsL l, ?_, h.fit _ (by cases l with | nil => exact absurd rfl hl | cons a r => simp), h64, ?_, fun _ => ⟨rfl, rfl⟩, fun h => by omega⟩
    · rw [h.enc]; show 2 :: (if l = [] then [] else sgn (l.getD 0 0) ++ packedL (stepsL l)) = _; rw [if_neg hl]; rfl
    · rw [packE, packOk_width (by rw [stepsL_length]; omega) stepsL_lt]; rfl
  · have hfl := frameL_lt h.fit
    have h64 : widthN (frameL l) ≤ 64 := widthN_le.2 hfl
    refine ⟨lowL l, frameL l, ?_, h.fit _ (lowL_mem hl), h64, ?_, fun h => by omega, fun _ => ⟨rfl, rfl⟩⟩
    · rw [h.enc]; show 3 :: (if l = [] then [] else sgn (lowL l) ++ packedL (frameL l)) = _; rw [if_neg hl]; rfl
    · rw [packE, packOk_width (by simp [frameL]; omega) hfl]; rfl

/-- The numbers of the third form, one behind the other. -/
def acc (x : Int) (s : List Nat) : Nat → Int
  | 0 => x
  | j + 1 => IntKind.i64.wrap (acc x s j + unzig (s.getD j 0))
def accs (x : Int) (s : List Nat) (j : Nat) : List Int := (List.range (j + 1)).map (acc x s)
theorem accs_snoc (x : Int) (s : List Nat) (j : Nat) : accs x s (j + 1) = accs x s j ++ [acc x s (j + 1)] := by unfold accs; rw [List.range_succ, List.map_append]; rfl
theorem acc_fit {x : Int} (hx : i64B x) (s : List Nat) : ∀ j, i64B (acc x s j)
  | 0 => hx
  | j + 1 => wrap_fit _
theorem accs_fit {x : Int} (hx : i64B x) (s : List Nat) (j : Nat) : ∀ z ∈ accs x s j, i64B z := by
  intro z hz; obtain ⟨i, _, rfl⟩ := List.mem_map.1 hz; exact acc_fit hx s i
theorem acc_steps {l : List Int} (hf : ∀ x ∈ l, i64B x) : ∀ j (x : Int), l[j]? = some x → acc (l.getD 0 0) (stepsL l) j = x
  | 0, x, hx => by simp [acc, List.getD_eq_getElem?_getD, hx]
  | j + 1, y, hy => by
    obtain ⟨x, hx⟩ : ∃ x, l[j]? = some x := ⟨_, List.getElem?_eq_getElem (by have := (List.getElem?_eq_some_iff.1 hy).1; omega)⟩
    have ih := acc_steps hf j x hx
    have hs := stepsL_get hx hy
    have h1 := hf x (List.mem_of_getElem? hx)
    have h2 := hf y (List.mem_of_getElem? hy)
    rw [acc, ih, List.getD_eq_getElem?_getD, hs, Option.getD_some, unzig_zig]
    unfold i64B at h1 h2
    rw [IntKind.wrap_i64, IntKind.wrap_i64]; omega
theorem accs_steps {l : List Int} (hf : ∀ x ∈ l, i64B x) (hl : l ≠ []) : accs (l.getD 0 0) (stepsL l) (stepsL l).length = l := by
  have h0 : 0 < l.length := List.length_pos_iff.2 hl
  apply List.ext_getElem?
  intro i
  unfold accs
  rw [stepsL_length, show l.length - 1 + 1 = l.length by omega, List.getElem?_map]
  rcases Nat.lt_or_ge i l.length with h | h
  · rw [List.getElem?_range h, List.getElem?_eq_getElem h, Option.map_some, acc_steps hf i _ (List.getElem?_eq_getElem h)]
  · rw [List.getElem?_eq_none (by simpa using h), List.getElem?_eq_none h]; rfl
/-- The numbers of the fourth form. -/
def offs (x : Int) (s : List Nat) : List Int := s.map fun (u : Nat) => IntKind.i64.wrap (IntKind.u64.wrap (IntKind.u64.wrap x + (u : Int)))
theorem offs_fit (x : Int) (s : List Nat) : ∀ z ∈ offs x s, i64B z := by intro z hz; obtain ⟨u, _, rfl⟩ := List.mem_map.1 hz; exact wrap_fit _
theorem offs_frame {l : List Int} (hf : ∀ x ∈ l, i64B x) : offs (lowL l) (frameL l) = l := by
  unfold offs frameL
  rw [List.map_map]
  conv => rhs; rw [← List.map_id l]
  refine List.map_congr_left fun x hx => ?_
  have h1 := hf x hx
  have h2 := hf _ (lowL_mem (l := l) (by intro e; rw [e] at hx; cases hx))
  have h3 := lowL_le x hx
  unfold i64B at h1 h2
  simp only [Function.comp, id]
  rw [u64_wrap, u64_wrap, IntKind.wrap_i64]; omega

set_option maxRecDepth 100000 in
theorem tight_ok (w : World) {p : Option Addr} {bn c : Nat} {b : List UInt8} (h : InB w p bn c b) {n : Int} (hn : 0 ≤ n ∧ n ≤ 4096) {y : UInt8} (hy : b[0]? = some y) (hy2 : y.toNat = 2 ∨ y.toNat = 3) :
    Calls Try.prog 71 #[.slice p bn c, .int .i64 n] w fun e w' => ∃ q m d ok out, e = .returned (.tuple #[.slice q m d, .bool ok]) ∧ OutI w.heap.size 2 w' q m d out ∧ Ext w w' ∧ (ok = true → (out.length : Int) = n) ∧
      ∀ l, Says b y.toNat n l → ok = true ∧ out = l := by
  have hlen := h.len
  have hle : bn ≤ 9223372036854775807 := h.le
  have hb0 : 0 < bn := by have := (List.getElem?_eq_some_iff.1 hy).1; omega
  have hby : b[0]'(by omega) = y := (List.getElem?_eq_some_iff.1 hy).2
  obtain ⟨N, rfl⟩ := Int.eq_ofNat_of_zero_le hn.1
  apply tight_vc
  unfold tight_T
  refine ⟨fun h0 => ?_, fun h0 => ?_⟩
  · obtain rfl : N = 0 := by omega
    refine ⟨none, 0, 0, _, [], rfl, OutI.nothing _ _ _, .rfl, fun _ => rfl, fun l hl => ?_⟩
    have hl0 : l = [] := List.eq_nil_of_length_eq_zero (by have := hl.len; omega)
    subst hl0
    refine ⟨decide_eq_true ?_, rfl⟩
    have : b.length = 1 := by rw [hl.enc]; rcases hy2 with e | e <;> rw [e] <;> rfl
    omega
  have hne : ∀ l, Says b y.toNat N l → l ≠ [] := by rintro l hl rfl; have := hl.len; simp at this; omega
  refine (takeSigned_ok w p bn c b 1 hlen h.cap.1 h.le h.lies).mono ?_
  rintro e w4 ⟨rfl, e4⟩
  obtain ⟨s1, s2, s3, hS, _, hSs⟩ := takeS_cases b 1
  rw [hS]
  -- what the bytes of a list give
  have said : ∀ l, Says b y.toNat N l → ∃ x s, takeN b 1 = some (zigN x, 1 + (sgn x).length) ∧ b[1 + (sgn x).length]? = some (UInt8.ofNat (widthN s)) ∧ b.drop (1 + (sgn x).length + 1) = packB s (widthN s : Int) ∧ i64B x ∧ widthN s ≤ 64 ∧ packE s (widthN s : Int) = 0 ∧ (y.toNat = 2 → x = l.getD 0 0 ∧ s = stepsL l) ∧ (y.toNat = 3 → x = lowL l ∧ s = frameL l) := by
    intro l hl
    obtain ⟨x, s, e1, e2, e3, e4, e5, e6⟩ := says_tight hl hy2 (hne l hl) hn.2
    have t1 := takeN_uvar (zig_lt e2.1 e2.2) [UInt8.ofNat y.toNat] (UInt8.ofNat (widthN s) :: packB s (widthN s : Int))
    have e7 : [UInt8.ofNat y.toNat] ++ (uvar (zigN x) ++ (UInt8.ofNat (widthN s) :: packB s (widthN s : Int))) = b := by rw [e1]; simp [sgn]
    rw [e7] at t1
    have hl' : (UInt8.ofNat y.toNat :: sgn x).length = 1 + (sgn x).length := by simp; omega
    refine ⟨x, s, t1, ?_, ?_, e2, e3, e4, e5, e6⟩
    · rw [e1, List.getElem?_append_right (by omega), hl', Nat.sub_self]; rfl
    · rw [e1, ← hl', List.drop_append, List.drop_of_length_le (by omega), List.nil_append, show (UInt8.ofNat y.toNat :: sgn x).length + 1 - (UInt8.ofNat y.toNat :: sgn x).length = 1 by omega]; rfl
  refine ⟨s1, s2, s3, rfl, fun hbad => ?_, fun hok => ?_⟩
  · refine ⟨none, 0, 0, false, [], rfl, OutI.nothing _ _ _, e4, fun h => Bool.noConfusion h, fun l hl => ?_⟩
    exfalso
    obtain ⟨x, s, t1, t2, _⟩ := said l hl
    have := (List.getElem?_eq_some_iff.1 t2).1
    rcases hSs with ⟨_, _, a2, rfl, rfl, rfl⟩ | ⟨a2, _⟩
    · rw [t1] at a2; cases a2; omega
    · rw [t1] at a2; cases a2
  obtain ⟨rfl, hk⟩ := hok
  obtain ⟨z, k, a1, rfl, rfl, _⟩ := hSs.resolve_right fun h => by have := h.2; omega
  clear hSs
  obtain ⟨_, c2, c3, c4, _⟩ := takeN_spec a1
  have hkb : k < bn := by omega
  have hzf := unzig_fit c2
  obtain ⟨v, hv⟩ : ∃ v, b[k]? = some v := ⟨_, List.getElem?_eq_getElem (by omega)⟩
  have hvb : b[k]'(by omega) = v := (List.getElem?_eq_some_iff.1 hv).2
  have hvl := v.toNat_lt
  have ek : IntKind.i64.wrap ((k : Int) + 1) = ((k + 1 : Nat) : Int) := i64_next (by omega)
  have evw : IntKind.i64.wrap ((v.toNat : Nat) : Int) = ((v.toNat : Nat) : Int) := i64_nat (by omega)
  -- what a list gives, with the numbers that were read
  have said2 : ∀ l, Says b y.toNat N l → ∀ many : Int, (y.toNat = 2 → many = (N : Int) - 1) → (y.toNat = 3 → many = (N : Int)) →
      unE (b.drop (k + 1)) many (v.toNat : Int) = 0 ∧ (y.toNat = 2 → unzig z = l.getD 0 0 ∧ unL (b.drop (k + 1)) many (v.toNat : Int) = stepsL l) ∧ (y.toNat = 3 → unzig z = lowL l ∧ unL (b.drop (k + 1)) many (v.toNat : Int) = frameL l) := by
    intro l hl many hm2 hm3
    obtain ⟨x, s, t1, t2, t3, t4, t5, t6, t7, t8⟩ := said l hl
    rw [a1] at t1
    obtain ⟨hz, hk'⟩ := Prod.mk.inj (Option.some.inj t1)
    subst hz
    rw [← hk', hv] at t2
    have hvw : ((v.toNat : Nat) : Int) = (widthN s : Int) := by rw [Option.some.inj t2, u8_toNat (by omega)]
    rw [← hk'] at t3
    have hll := hl.len
    have hlp := List.length_pos_iff.2 (hne l hl)
    have hmany : many = (s.length : Int) := by
      rcases hy2 with e | e
      · rw [hm2 e, (t7 e).2, stepsL_length]; omega
      · rw [hm3 e, (t8 e).2]; simp [frameL]; omega
    obtain ⟨u1, u2⟩ := L6.un_pack t6
    rw [t3, hvw, hmany]
    rw [unzig_zig]
    exact ⟨u1, fun e => ⟨(t7 e).1, by rw [u2, (t7 e).2]⟩, fun e => ⟨(t8 e).1, by rw [u2, (t8 e).2]⟩⟩
  refine ⟨by omega, by omega, by omega, by omega, fun b10 w11 h10 => ?_⟩
  rw [Int.toNat_natCast] at h10 ⊢
  have H11 := (Hold.start e4).madeRow (s := 1) (cap := N) h10 (by simp [maxLen]; omega) (by rw [size_madeCells]; omega)
  obtain ⟨b1, o1, hp, hc⟩ := (h.ext H11.ext).lies.getB (i := 0) (by omega)
  rw [hby] at hc
  refine ⟨b1, o1, hp, by omega, by omega, _, hc, fun h2 => ?_, fun h2 => ?_⟩
  · -- steps
    have hy2' : y.toNat = 2 := by omega
    intro b17 w18 h17
    obtain ⟨q, d, w23, hrun, H23⟩ := app_i64 (l := []) H11 0 rfl h17 (by omega)
    refine ⟨q, _, d, w23, hrun, fun w24 hd => ?_⟩
    have H24 := H23.step hd.ext
    obtain ⟨b2, o2, hp2, hc2⟩ := (h.ext H24.ext).lies.getB (i := k) (by omega)
    rw [hvb] at hc2
    rw [ek, Int.toNat_natCast, show IntKind.i64.wrap ((N : Int) - 1) = (N : Int) - 1 by rw [i64_fit (by omega) (by omega)]]
    refine ⟨by omega, by omega, b2, o2, hp2, by omega, by omega, _, hc2, ?_⟩
    rw [evw]
    refine (unpack_ok w24 ((h.ext H24.ext).tail (k := k + 1) (by omega)) _ _).mono ?_
    rintro e w30 ⟨q2, m2, d2, rfl, o30, e30⟩
    obtain ⟨U, hU⟩ : ∃ U, U = unL (b.drop (k + 1)) ((N : Int) - 1) (v.toNat : Int) := ⟨_, rfl⟩
    rw [← hU] at o30
    have hm2 := o30.1
    have hUl : U.length ≤ 4096 := by
      rw [hU]; unfold unL; split
      · rw [digits_length]; omega
      · simp
    refine ⟨q2, m2, d2, _, rfl, fun a q m d i W => ∃ j : Nat, i = (j : Int) ∧ j ≤ m2 ∧ a = acc (unzig z) U j ∧ m = j + 1 ∧ Hold w W [] [⟨48, 1, q2, m2, d2, vN .u64 U⟩, ⟨2, 1, q, m, d, vI .i64 (accs (unzig z) U j)⟩], fun _ _ _ _ i _ => m2 - i.toNat, ⟨0, rfl, Nat.zero_le _, rfl, rfl, H24.addRow e30 o30.2.2⟩, ?_⟩
    rintro a q m d i W ⟨j, rfl, hj, rfl, rfl, H⟩
    refine ⟨fun hlt => ?_, fun hge => ?_⟩
    · obtain ⟨u, hu⟩ : ∃ u, U[j]? = some u := ⟨_, List.getElem?_eq_getElem (by omega)⟩
      obtain ⟨b3, o3, hp3, hc3⟩ := (H.row 0 rfl).at.getN hu
      obtain ⟨b4, o4, hp4, hc4⟩ := (h.ext H.ext).lies.getB (i := 0) (by omega)
      rw [hby] at hc4
      refine ⟨b3, o3, hp3, by omega, by omega, _, by rw [Int.toNat_natCast]; exact hc3, b4, o4, hp4, by omega, by omega, _, hc4, fun _ => (zagP_ok W (o30.2.1 u (List.mem_of_getElem? hu))).mono ?_, fun h => by omega⟩
      rintro e w53 ⟨rfl, e53⟩
      refine ⟨_, rfl, fun b55 w56 h55 => ?_⟩
      have ea : acc (unzig z) U (j + 1) = IntKind.i64.wrap (acc (unzig z) U j + unzig u) := by rw [acc, List.getD_eq_getElem?_getD, hu]; rfl
      rw [← ea] at h55
      obtain ⟨q3, d3, w61, hrun3, H61⟩ := app_i64 (H.step e53) 1 rfl h55 (by omega)
      rw [← ea, i64_next (by omega)]
      refine ⟨q3, _, d3, w61, hrun3, ⟨j + 1, rfl, by omega, rfl, rfl, ?_⟩, by simp only [Int.toNat_natCast]; omega⟩
      rw [accs_snoc]; exact H61
    · have hjm : j = m2 := by omega
      subst hjm
      refine ⟨q, _, d, _, accs (unzig z) U j, rfl, ⟨by simp [accs], accs_fit hzf U j, H.row 1 rfl⟩, H.ext, fun hok => ?_, fun l hl => ?_⟩
      · have := (L6.pack_un (of_decide_eq_true hok)).1
        rw [← hU] at this
        simp only [accs, List.length_map, List.length_range]; omega
      · obtain ⟨r1, r2, _⟩ := said2 l hl ((N : Int) - 1) (fun _ => rfl) (fun h => by omega)
        obtain ⟨r3, r4⟩ := r2 hy2'
        rw [← hU] at r4
        refine ⟨decide_eq_true r1, ?_⟩
        rw [← hm2, r4, r3]
        exact accs_steps hl.fit (hne l hl)
  · -- frame
    have hy3 : y.toNat = 3 := by omega
    intro w72 hd
    have H72 := H11.step hd.ext
    obtain ⟨b2, o2, hp2, hc2⟩ := (h.ext H72.ext).lies.getB (i := k) (by omega)
    rw [hvb] at hc2
    rw [ek, Int.toNat_natCast]
    refine ⟨by omega, by omega, b2, o2, hp2, by omega, by omega, _, hc2, ?_⟩
    rw [evw]
    refine (unpack_ok w72 ((h.ext H72.ext).tail (k := k + 1) (by omega)) _ _).mono ?_
    rintro e w78 ⟨q2, m2, d2, rfl, o78, e78⟩
    obtain ⟨U, hU⟩ : ∃ U, U = unL (b.drop (k + 1)) (N : Int) (v.toNat : Int) := ⟨_, rfl⟩
    rw [← hU] at o78
    have hm2 := o78.1
    have hUl : U.length ≤ 4096 := by
      rw [hU]; unfold unL; split
      · rw [digits_length]; omega
      · simp
    refine ⟨q2, m2, d2, _, rfl, fun a q m d i W => ∃ j : Nat, i = (j : Int) ∧ j ≤ m2 ∧ a = unzig z ∧ m = j ∧ Hold w W [] [⟨48, 1, q2, m2, d2, vN .u64 U⟩, ⟨2, 1, q, m, d, vI .i64 (offs (unzig z) (U.take j))⟩], fun _ _ _ _ i _ => m2 - i.toNat, ⟨0, rfl, Nat.zero_le _, rfl, rfl, H72.addRow e78 o78.2.2⟩, ?_⟩
    rintro a q m d i W ⟨j, rfl, hj, rfl, rfl, H⟩
    refine ⟨fun hlt => ?_, fun hge => ?_⟩
    · obtain ⟨u, hu⟩ : ∃ u, U[m]? = some u := ⟨_, List.getElem?_eq_getElem (by omega)⟩
      obtain ⟨b3, o3, hp3, hc3⟩ := (H.row 0 rfl).at.getN hu
      obtain ⟨b4, o4, hp4, hc4⟩ := (h.ext H.ext).lies.getB (i := 0) (by omega)
      rw [hby] at hc4
      refine ⟨b3, o3, hp3, by omega, by omega, _, by rw [Int.toNat_natCast]; exact hc3, b4, o4, hp4, by omega, by omega, _, hc4, fun h => by omega, fun _ b111 w112 h111 => ?_⟩
      obtain ⟨q3, d3, w117, hrun3, H117⟩ := app_i64 H 1 rfl h111 (by omega)
      rw [i64_next (by omega)]
      refine ⟨q3, _, d3, w117, hrun3, ⟨m + 1, rfl, by omega, rfl, rfl, ?_⟩, by simp only [Int.toNat_natCast]; omega⟩
      have : offs (unzig z) (U.take (m + 1)) = offs (unzig z) (U.take m) ++ [IntKind.i64.wrap (IntKind.u64.wrap (IntKind.u64.wrap (unzig z) + (u : Int)))] := by rw [take_snoc hu]; simp [offs]
      rw [this]; exact H117
    · have hjm : m = m2 := by omega
      subst hjm
      rw [List.take_of_length_le (by omega)] at H
      refine ⟨q, _, d, _, offs (unzig z) U, rfl, ⟨by simp [offs, hm2], offs_fit _ U, H.row 1 rfl⟩, H.ext, fun hok => ?_, fun l hl => ?_⟩
      · have := (L6.pack_un (of_decide_eq_true hok)).1
        rw [← hU] at this
        simp only [offs, List.length_map]; omega
      · obtain ⟨r1, _, r2⟩ := said2 l hl (N : Int) (fun h => by omega) (fun _ => rfl)
        obtain ⟨r3, r4⟩ := r2 hy3
        rw [← hU] at r4
        refine ⟨decide_eq_true r1, ?_⟩
        rw [r4, r3]
        exact offs_frame hl.fit

set_option maxRecDepth 100000 in
theorem widely_ok (w : World) {p : Option Addr} {bn c : Nat} {b : List UInt8} (h : InB w p bn c b) {n : Int} (hn : 0 ≤ n ∧ n ≤ 4096) {y : UInt8} (hy : b[0]? = some y) (hy2 : y.toNat = 2 ∨ y.toNat = 3) :
    Calls Try.prog 74 #[.slice p bn c, .int .i64 n] w fun e w' => ∃ q m d out, e = .returned (.slice q m d) ∧ OutI w.heap.size 2 w' q m d out ∧ Ext w w' ∧ ∀ l, Says b y.toNat n l → out = l := by
  have hlen := h.len
  have hle : bn ≤ 9223372036854775807 := h.le
  have hb0 : 0 < bn := by have := (List.getElem?_eq_some_iff.1 hy).1; omega
  have hby : b[0]'(by omega) = y := (List.getElem?_eq_some_iff.1 hy).2
  obtain ⟨N, rfl⟩ := Int.eq_ofNat_of_zero_le hn.1
  apply widely_vc
  unfold widely_T
  refine (refTakeSigned_ok w p bn c b 1 (by omega) hlen h.le h.lies).mono ?_
  rintro e w2 ⟨rfl, e2⟩
  obtain ⟨s1, s2, s3, hS, _, hSs⟩ := takeS_cases b 1
  rw [hS]
  have said : ∀ l, Says b y.toNat N l → l ≠ [] → ∃ x s, takeN b 1 = some (zigN x, 1 + (sgn x).length) ∧ b[1 + (sgn x).length]? = some (UInt8.ofNat (widthN s)) ∧ b.drop (1 + (sgn x).length + 1) = packB s (widthN s : Int) ∧ i64B x ∧ widthN s ≤ 64 ∧ packE s (widthN s : Int) = 0 ∧ (y.toNat = 2 → x = l.getD 0 0 ∧ s = stepsL l) ∧ (y.toNat = 3 → x = lowL l ∧ s = frameL l) := by
    intro l hl hne
    obtain ⟨x, s, e1, e2, e3, e4, e5, e6⟩ := says_tight hl hy2 hne hn.2
    have t1 := takeN_uvar (zig_lt e2.1 e2.2) [UInt8.ofNat y.toNat] (UInt8.ofNat (widthN s) :: packB s (widthN s : Int))
    have e7 : [UInt8.ofNat y.toNat] ++ (uvar (zigN x) ++ (UInt8.ofNat (widthN s) :: packB s (widthN s : Int))) = b := by rw [e1]; simp [sgn]
    rw [e7] at t1
    have hl' : (UInt8.ofNat y.toNat :: sgn x).length = 1 + (sgn x).length := by simp; omega
    refine ⟨x, s, t1, ?_, ?_, e2, e3, e4, e5, e6⟩
    · rw [e1, List.getElem?_append_right (by omega), hl', Nat.sub_self]; rfl
    · rw [e1, ← hl', List.drop_append, List.drop_of_length_le (by omega), List.nil_append, show (UInt8.ofNat y.toNat :: sgn x).length + 1 - (UInt8.ofNat y.toNat :: sgn x).length = 1 by omega]; rfl
  refine ⟨s1, s2, s3, rfl, fun hbad => ⟨none, 0, 0, [], rfl, OutI.nothing _ _ _, e2, fun l hl => ?_⟩, fun hok => ?_⟩
  · apply Classical.byContradiction
    intro hne
    have hne' : l ≠ [] := fun e => hne e.symm
    have hll := hl.len
    have hpos := List.length_pos_iff.2 hne'
    obtain ⟨x, s, t1, t2, _⟩ := said l hl hne'
    have := (List.getElem?_eq_some_iff.1 t2).1
    rcases hSs with ⟨_, _, a2, rfl, rfl, rfl⟩ | ⟨a2, _⟩
    · rw [t1] at a2; cases a2; omega
    · rw [t1] at a2; cases a2
  obtain ⟨⟨h0, rfl⟩, hk⟩ := hok
  have hne : ∀ l, Says b y.toNat N l → l ≠ [] := by rintro l hl rfl; have := hl.len; simp at this; omega
  obtain ⟨z, k, a1, rfl, rfl, _⟩ := hSs.resolve_right fun h => by have := h.2; omega
  clear hSs
  obtain ⟨_, c2, c3, c4, _⟩ := takeN_spec a1
  have hkb : k < bn := by omega
  have hzf := unzig_fit c2
  obtain ⟨v, hv⟩ : ∃ v, b[k]? = some v := ⟨_, List.getElem?_eq_getElem (by omega)⟩
  have hvb : b[k]'(by omega) = v := (List.getElem?_eq_some_iff.1 hv).2
  have hvl := v.toNat_lt
  have ek : IntKind.i64.wrap ((k : Int) + 1) = ((k + 1 : Nat) : Int) := i64_next (by omega)
  have evw : IntKind.i64.wrap ((v.toNat : Nat) : Int) = ((v.toNat : Nat) : Int) := i64_nat (by omega)
  have said2 : ∀ l, Says b y.toNat N l → ∀ many : Int, (y.toNat = 2 → many = (N : Int) - 1) → (y.toNat = 3 → many = (N : Int)) →
      unE (b.drop (k + 1)) many (v.toNat : Int) = 0 ∧ (y.toNat = 2 → unzig z = l.getD 0 0 ∧ unL (b.drop (k + 1)) many (v.toNat : Int) = stepsL l) ∧ (y.toNat = 3 → unzig z = lowL l ∧ unL (b.drop (k + 1)) many (v.toNat : Int) = frameL l) := by
    intro l hl many hm2 hm3
    obtain ⟨x, s, t1, t2, t3, t4, t5, t6, t7, t8⟩ := said l hl (hne l hl)
    rw [a1] at t1
    obtain ⟨hz, hk'⟩ := Prod.mk.inj (Option.some.inj t1)
    subst hz
    rw [← hk', hv] at t2
    have hvw : ((v.toNat : Nat) : Int) = (widthN s : Int) := by rw [Option.some.inj t2, u8_toNat (by omega)]
    rw [← hk'] at t3
    have hll := hl.len
    have hlp := List.length_pos_iff.2 (hne l hl)
    have hmany : many = (s.length : Int) := by
      rcases hy2 with e | e
      · rw [hm2 e, (t7 e).2, stepsL_length]; omega
      · rw [hm3 e, (t8 e).2]; simp [frameL]; omega
    obtain ⟨u1, u2⟩ := L6.un_pack t6
    rw [t3, hvw, hmany]
    rw [unzig_zig]
    exact ⟨u1, fun e => ⟨(t7 e).1, by rw [u2, (t7 e).2]⟩, fun e => ⟨(t8 e).1, by rw [u2, (t8 e).2]⟩⟩
  obtain ⟨b1, o1, hp, hc⟩ := (h.ext e2).lies.getB (i := 0) (by omega)
  rw [hby] at hc
  refine ⟨b1, o1, hp, by omega, by omega, _, hc, fun h3 w12 hd => ?_, fun h3 w46 hd => ?_⟩
  · -- frame
    have hy3 : y.toNat = 3 := by omega
    have x12 := e2.trans hd.ext
    obtain ⟨b2, o2, hp2, hc2⟩ := (h.ext x12).lies.getB (i := k) (by omega)
    rw [hvb] at hc2
    rw [ek, Int.toNat_natCast]
    refine ⟨by omega, by omega, b2, o2, hp2, by omega, by omega, _, hc2, ?_⟩
    rw [evw]
    refine (runpack_ok w12 ((h.ext x12).tail (k := k + 1) (by omega)) _ _ (by omega)).mono ?_
    rintro e w18 ⟨q2, m2, d2, rfl, o18, e18⟩
    have x18 := x12.trans e18
    obtain ⟨U, hU⟩ : ∃ U, U = unL (b.drop (k + 1)) (N : Int) (v.toNat : Int) := ⟨_, rfl⟩
    rw [← hU] at o18
    have hm2 := o18.1
    refine ⟨q2, m2, d2, _, rfl, fun hne' => ⟨none, 0, 0, [], rfl, OutI.nothing _ _ _, x18, fun l hl => ?_⟩, fun h00 => ?_⟩
    · exact absurd (said2 l hl (N : Int) (fun h => by omega) (fun _ => rfl)).1 hne'
    have hmN : m2 = N := by have := (L6.pack_un h00).1; rw [← hU] at this; omega
    refine ⟨fun q m d i W => ∃ j : Nat, i = (j : Int) ∧ j ≤ N ∧ m = j ∧ Hold w W [] [⟨2, 1, q, m, d, vI .i64 (offs (unzig z) (U.take j))⟩, ⟨48, 1, q2, m2, d2, vN .u64 U⟩], fun _ _ _ i _ => N - i.toNat, ⟨0, rfl, Nat.zero_le _, rfl, ((Hold.start x12).addRow e18 o18.2.2).nilRow 2 1⟩, ?_⟩
    rintro q m d i W ⟨j, rfl, hj, rfl, H⟩
    refine ⟨fun hlt => ?_, fun hge => ?_⟩
    · obtain ⟨u, hu⟩ : ∃ u, U[m]? = some u := ⟨_, List.getElem?_eq_getElem (by omega)⟩
      obtain ⟨b3, o3, hp3, hc3⟩ := (H.row 1 rfl).at.getN hu
      refine ⟨b3, o3, hp3, by omega, by omega, _, by rw [Int.toNat_natCast]; exact hc3, fun b37 w38 h37 => ?_⟩
      obtain ⟨q3, d3, w43, hrun3, H43⟩ := app_i64 H 0 rfl h37 (by omega)
      rw [i64_next (by omega)]
      refine ⟨q3, _, d3, w43, hrun3, ⟨m + 1, rfl, by omega, rfl, ?_⟩, by simp only [Int.toNat_natCast]; omega⟩
      have : offs (unzig z) (U.take (m + 1)) = offs (unzig z) (U.take m) ++ [IntKind.i64.wrap (IntKind.u64.wrap (IntKind.u64.wrap (unzig z) + (u : Int)))] := by rw [take_snoc hu]; simp [offs]
      rw [this]; exact H43
    · have hjm : m = N := by omega
      subst hjm
      rw [List.take_of_length_le (by omega)] at H
      refine ⟨q, _, d, offs (unzig z) U, rfl, ⟨by simp only [offs, List.length_map]; omega, offs_fit _ U, H.row 0 rfl⟩, H.ext, fun l hl => ?_⟩
      obtain ⟨r1, _, r2⟩ := said2 l hl (m : Int) (fun h => by omega) (fun _ => rfl)
      obtain ⟨r3, r4⟩ := r2 hy3
      rw [← hU] at r4
      rw [r4, r3]
      exact offs_frame hl.fit
  · -- steps
    have hy2' : y.toNat = 2 := by omega
    have x46 := e2.trans hd.ext
    obtain ⟨b2, o2, hp2, hc2⟩ := (h.ext x46).lies.getB (i := k) (by omega)
    rw [hvb] at hc2
    have eN1 : IntKind.i64.wrap ((N : Int) - 1) = (N : Int) - 1 := by rw [i64_fit (by omega) (by omega)]
    rw [ek, Int.toNat_natCast, eN1]
    refine ⟨by omega, by omega, b2, o2, hp2, by omega, by omega, _, hc2, ?_⟩
    rw [evw]
    refine (runpack_ok w46 ((h.ext x46).tail (k := k + 1) (by omega)) _ _ (by omega)).mono ?_
    rintro e w52 ⟨q2, m2, d2, rfl, o52, e52⟩
    have x52 := x46.trans e52
    obtain ⟨U, hU⟩ : ∃ U, U = unL (b.drop (k + 1)) ((N : Int) - 1) (v.toNat : Int) := ⟨_, rfl⟩
    rw [← hU] at o52
    have hm2 := o52.1
    refine ⟨q2, m2, d2, _, rfl, fun hne' => ⟨none, 0, 0, [], rfl, OutI.nothing _ _ _, x52, fun l hl => ?_⟩, fun h00 b59 w60 h59 => ?_⟩
    · exact absurd (said2 l hl ((N : Int) - 1) (fun _ => rfl) (fun h => by omega)).1 hne'
    have hmN : (m2 : Int) = (N : Int) - 1 := by have := (L6.pack_un h00).1; rw [← hU] at this; omega
    have H60 := ((Hold.start x46).addRow e52 o52.2.2).litRow (s := 1) (cap := 1) h59 (by simp [maxLen]) rfl
    refine ⟨fun a q m d i W => ∃ j : Nat, i = (j : Int) ∧ j ≤ m2 ∧ a = acc (unzig z) U j ∧ m = j + 1 ∧ Hold w W [] [⟨2, 1, q, m, d, vI .i64 (accs (unzig z) U j)⟩, ⟨48, 1, q2, m2, d2, vN .u64 U⟩], fun _ _ _ _ i _ => m2 - i.toNat, ⟨0, rfl, Nat.zero_le _, rfl, rfl, H60⟩, ?_⟩
    rintro a q m d i W ⟨j, rfl, hj, rfl, rfl, H⟩
    refine ⟨fun hlt => ?_, fun hge => ?_⟩
    · obtain ⟨u, hu⟩ : ∃ u, U[j]? = some u := ⟨_, List.getElem?_eq_getElem (by omega)⟩
      have hul := o52.2.1 u (List.mem_of_getElem? hu)
      obtain ⟨b3, o3, hp3, hc3⟩ := (H.row 1 rfl).at.getN hu
      have ea : acc (unzig z) U (j + 1) = IntKind.i64.wrap (acc (unzig z) U j + unzig u) := by rw [acc, List.getD_eq_getElem?_getD, hu]; rfl
      have hr2 : remI (u : Int) 2 = ((u % 2 : Nat) : Int) := rem_nat u 2
      refine ⟨b3, o3, hp3, by omega, by omega, _, by rw [Int.toNat_natCast]; exact hc3, b3, o3, hp3, by omega, by omega, _, by rw [Int.toNat_natCast]; exact hc3, ?_⟩
      rw [hr2, i64_next (by omega)]
      refine ⟨fun hodd b79 w80 h79 => ?_, fun heven b87 w88 h87 => ?_⟩
      · rw [unzig_ref hul (by omega), ← ea] at h79
        obtain ⟨q3, d3, w85, hrun3, H85⟩ := app_i64 H 0 rfl h79 (by omega)
        rw [unzig_ref hul (by omega), ← ea]
        refine ⟨q3, _, d3, w85, hrun3, ⟨j + 1, rfl, by omega, rfl, rfl, ?_⟩, by simp only [Int.toNat_natCast]; omega⟩
        rw [accs_snoc]; exact H85
      · have hev : IntKind.i64.wrap (quoI .u64 (u : Int) 2) = unzig u := by
          rw [show (2 : Int) = ((2 : Nat) : Int) from rfl, quo_u64 2 hul, i64_nat (by omega)]
          unfold unzig; rw [if_neg (by omega)]
        rw [hev, ← ea] at h87
        obtain ⟨q3, d3, w93, hrun3, H93⟩ := app_i64 H 0 rfl h87 (by omega)
        rw [hev, ← ea]
        refine ⟨q3, _, d3, w93, hrun3, ⟨j + 1, rfl, by omega, rfl, rfl, ?_⟩, by simp only [Int.toNat_natCast]; omega⟩
        rw [accs_snoc]; exact H93
    · have hjm : j = m2 := by omega
      subst hjm
      refine ⟨q, _, d, accs (unzig z) U j, rfl, ⟨by simp [accs], accs_fit hzf U j, H.row 0 rfl⟩, H.ext, fun l hl => ?_⟩
      obtain ⟨r1, r2, _⟩ := said2 l hl ((N : Int) - 1) (fun _ => rfl) (fun h => by omega)
      obtain ⟨r3, r4⟩ := r2 hy2'
      rw [← hU] at r4
      rw [← hm2, r4, r3]
      exact accs_steps hl.fit (hne l hl)
end Go.Proofs.Ytdclhgcgpcddlaa
