/- Lists of numbers in few bytes: encoding, the document's and the program's. -/
import Derived.Test.YtdclhgcgpcddlaaIntsA
import Derived.Test.YtdclhgcgpcddlaaV6a
import Derived.Test.YtdclhgcgpcddlaaV6b
namespace Go.Proofs.Ytdclhgcgpcddlaa
open Go Go.Vc Go.RowKit

theorem und22i : Try.prog.underlying 22 = some (.slice 48) := by kernel_rfl
theorem und63 : Try.prog.underlying 63 = some (.slice 2) := by kernel_rfl
theorem ty48i : ∃ z, tyOf Try.prog 48 = some z ∧ z.ls.length = 1 ∧ z.bytes = 8 := ⟨_, (by kernel_rfl : tyOf Try.prog 48 = some ⟨false, [.int .u64], .int .u64 0, 8⟩), rfl, rfl⟩
theorem ty2i : ∃ z, tyOf Try.prog 2 = some z ∧ z.ls.length = 1 ∧ z.bytes = 8 := ⟨_, (by kernel_rfl : tyOf Try.prog 2 = some ⟨false, [.int .i64], .int .i64 0, 8⟩), rfl, rfl⟩

theorem vN_one (k : IntKind) {l : List Nat} : ∀ u ∈ vN k l, u.oneCell' = true := by intro u hu; obtain ⟨x, _, rfl⟩ := List.mem_map.1 hu; rfl

/-- append(s, x) onto numbers of our own. -/
theorem app_u64 {w0 W W1 : World} {fs : List (Nat × Obj)} {ms : List Row} (H : Hold w0 W fs ms) (i : Nat) {p : Option Addr} {n c b : Nat} {l : List Nat} {m : Nat} (hi : ms[i]? = some ⟨48, 1, p, n, c, vN .u64 l⟩)
    (hnew : New W (.cells #[.int .u64 (m : Int)] 48) b W1) (hn : n ≤ 1000000) :
    ∃ p' c' W', (Builtin.append_ #[22, 22] 22 #[.slice p n c, .slice (some ⟨b, 0, none⟩) 1 1]).run Try.prog W1 = .ok (.slice p' (n + 1) c') W' ∧ Hold w0 W' fs (ms.set i ⟨48, 1, p', n + 1, c', vN .u64 (l ++ [m])⟩) := by
  obtain ⟨z, hz, z1, z2⟩ := ty48i
  rw [vN_append]
  exact (H.step hnew.ext).append i hi und22i hz z1 (by decide) (hnew.at : At W1 (some ⟨b, 0, none⟩) (vN .u64 [m])) (m := 1) rfl (fun e => by cases e) (vN_one _) (by rw [z2]; omega) (by simp [maxLen]; omega)
theorem app_i64 {w0 W W1 : World} {fs : List (Nat × Obj)} {ms : List Row} (H : Hold w0 W fs ms) (i : Nat) {p : Option Addr} {n c b : Nat} {l : List Int} {x : Int} (hi : ms[i]? = some ⟨2, 1, p, n, c, vI .i64 l⟩)
    (hnew : New W (.cells #[.int .i64 x] 2) b W1) (hn : n ≤ 1000000) :
    ∃ p' c' W', (Builtin.append_ #[63, 63] 63 #[.slice p n c, .slice (some ⟨b, 0, none⟩) 1 1]).run Try.prog W1 = .ok (.slice p' (n + 1) c') W' ∧ Hold w0 W' fs (ms.set i ⟨2, 1, p', n + 1, c', vI .i64 (l ++ [x])⟩) := by
  obtain ⟨z, hz, z1, z2⟩ := ty2i
  rw [vI_append]
  exact (H.step hnew.ext).append i hi und63 hz z1 (by decide) (hnew.at : At W1 (some ⟨b, 0, none⟩) (vI .i64 [x])) (m := 1) rfl (fun e => by cases e) vI_one (by rw [z2]; omega) (by simp [maxLen]; omega)

theorem u8_of {n : Nat} (h : n < 256) : IntKind.u8.wrap (n : Int) = (((UInt8.ofNat n).toNat : Nat) : Int) := by rw [u8_nat h, u8_toNat h]
theorem byte_in {w w' : World} {b : Nat} {y : UInt8} {x : Int} (h : New w (.cells #[.int .u8 x] 5) b w') (hx : x = ((y.toNat : Nat) : Int)) : In w' (some ⟨b, 0, none⟩) 1 1 [y] := by
  subst hx
  exact ⟨rfl, ⟨Nat.le_refl _, by simp [maxLen]⟩, h.at, fun e => by cases e⟩

theorem zigP_ok (w : World) {d : Int} (h : i64B d) : Calls Try.prog 63 #[.int .i64 d] w fun e w' => e = .returned (.int .u64 ((zigN d : Nat) : Int)) ∧ Ext w w' := by
  apply zigP_vc
  unfold zigP_T
  rw [zig_prog h.1 h.2]
  exact ⟨rfl, .rfl⟩
theorem zagP_ok (w : World) {v : Nat} (h : v < 18446744073709551616) : Calls Try.prog 81 #[.int .u64 (v : Int)] w fun e w' => e = .returned (.int .i64 (unzig v)) ∧ Ext w w' := by
  apply zagP_vc
  unfold zagP_T
  rw [unzig_prog h]
  exact ⟨rfl, .rfl⟩

/-- packed: a form, a first number, a width, packed numbers. -/
theorem packed_ok (w : World) {p : Option Addr} {n c : Nat} {s : List Nat} (h : Us w p n c s) (hn : n ≤ 4096) {form : Int} {y : UInt8} (hf : form = ((y.toNat : Nat) : Int)) {x : Int} (hx : i64B x) :
    Calls Try.prog 64 #[.int .u8 form, .int .i64 x, .slice p n c] w fun e w' => ∃ q m d, e = .returned (.slice q m d) ∧ OutB w.heap.size 5 w' q m d ((y :: sgn x) ++ packedL s) ∧ Ext w w' := by
  have hlen := h.len
  apply packed_vc
  unfold packed_T
  refine (width_ok w h).mono ?_
  rintro e w2 ⟨rfl, e2⟩
  have h64 : widthN s ≤ 64 := widthN_le.2 h.lt
  refine ⟨_, rfl, (pack_ok w2 (h.ext e2) _).mono ?_⟩
  rintro e w5 ⟨q1, m1, d1, rfl, o1, e5⟩
  refine ⟨q1, m1, d1, _, rfl, fun b10 w11 h10 => ?_⟩
  have hb10 := byte_in h10 hf
  refine (signed_out w11 hb10 (by omega) hx.1 hx.2).mono ?_
  rintro e w14 ⟨q2, m2, d2, rfl, o2, e14⟩
  refine ⟨q2, m2, d2, rfl, fun b18 w19 h18 b21 w22 h21 => ?_⟩
  have hb18 := byte_in (y := UInt8.ofNat (widthN s)) h18 (u8_of (by omega))
  have x15 := h10.ext.trans (e14.trans h18.ext)
  have o1' := o1.ext x15
  have o2' := o2.ext h18.ext
  have hu := sgn_len hx
  have hpl := packedL_len (by omega : s.length ≤ 4096) h.lt
  have hm1 := o1.1
  have hm2 := o2.1
  have hparts : Parts w22 (some ⟨b21, 0, none⟩) [y :: sgn x, [UInt8.ofNat (widthN s)], packB s (widthN s : Int)] := by
    refine parts_new h21 fun k l hk => ?_
    rcases k with _ | _ | _ | k
    · simp at hk; subst hk
      exact ⟨q2, d2, by simp only [List.getElem?_toArray]; rw [show (y :: sgn x).length = m2 from hm2]; rfl, o2'.2.at, by rw [show (y :: sgn x).length = m2 from hm2]; exact Nat.le_trans o2.2.cap.1 o2.2.cap.2, fun e => by have := o2.2.isNil e; have h0 : (y :: sgn x).length = m2 := hm2; simp at h0; omega⟩
    · simp at hk; subst hk
      exact ⟨_, 1, rfl, hb18.lies, by simp [maxLen], fun e => by cases e⟩
    · simp at hk; subst hk
      exact ⟨q1, d1, by rw [hm1]; rfl, o1'.2.at, by rw [hm1]; exact Nat.le_trans o1.2.cap.1 o1.2.cap.2, fun e => by have := o1.2.isNil e; exact ⟨List.eq_nil_of_length_eq_zero (by omega), this.2⟩⟩
    · simp at hk
  have hflat : [y :: sgn x, [UInt8.ofNat (widthN s)], packB s (widthN s : Int)].flatten = (y :: sgn x) ++ packedL s := by simp [packedL]
  have htot : [y :: sgn x, [UInt8.ofNat (widthN s)], packB s (widthN s : Int)].flatten.length ≤ 211106232532992 := by
    rw [hflat, List.length_append, List.length_cons]; omega
  refine (concat_ok w22 _ 3 3 _ rfl (by simp [maxLen]) hparts htot).mono ?_
  rintro e w25 ⟨q3, d3, rfl, m3, e25⟩
  rw [hflat] at m3 ⊢
  have x22 : Ext w w22 := ((e2.trans e5).trans x15).trans h21.ext
  exact ⟨_, _, _, rfl, q3, _, d3, rfl, ⟨rfl, m3.mono x22.size⟩, x22.trans e25⟩

/-- The document's packed, behind bytes of our own. -/
theorem rpacked_ok (w : World) {p q : Option Addr} {n c m d B : Nat} {s : List Nat} {l : List UInt8} (h : Us w p n c s) (hn : n ≤ 4096) (o : OutB B 5 w q m d l) (hB : B ≤ w.heap.size) (hm : m ≤ 1000000) :
    Calls Try.prog 78 #[.slice q m d, .slice p n c] w fun e w' => ∃ q' m' d', e = .returned (.slice q' m' d') ∧ OutB B 5 w' q' m' d' (l ++ packedL s) ∧ Below B w w' := by
  have hlen := h.len
  apply rpacked_vc
  unfold rpacked_T
  refine (rwidth_ok w h).mono ?_
  rintro e w2 ⟨rfl, e2⟩
  have h64 : widthN s ≤ 64 := widthN_le.2 h.lt
  refine ⟨_, rfl, (rpack_ok w2 (h.ext e2) _ (by omega)).mono ?_⟩
  rintro e w5 ⟨q1, m1, d1, rfl, o1, e5⟩
  have hpl := packedL_len (by omega : s.length ≤ 4096) h.lt
  have hm1 := o1.1
  have hpl1 : m1 + 1 ≤ 40000 := by simp only [packedL, List.length_cons] at hpl; omega
  refine ⟨q1, m1, d1, _, rfl, fun b10 w11 h10 => ?_⟩
  rw [u8_of (by omega)] at h10
  have hb10 := byte_in (y := UInt8.ofNat (widthN s)) h10 rfl
  have x11 := (e2.trans e5).trans h10.ext
  obtain ⟨p3, c3, w16, hrun, hm16, hg⟩ := append_bytes (m := 1) (o.2.ext x11) hb10.lies rfl (fun e => by cases e) (Nat.le_trans hB x11.size) (by omega)
  refine ⟨p3, _, c3, w16, hrun, ?_⟩
  have b16 : Below B w w16 := (o.2.ext x11).below hg (Below.mono x11.below hB) (Nat.le_refl _) (Nat.le_trans hB x11.size)
  -- what was packed lies apart from our bytes
  have hat : At w16 q1 (vB (packB s (widthN s : Int))) := by
    have h0 := (o1.ext h10.ext).2.at
    refine h0.grown (o.2.ext x11) hg fun b o' b' o'' hb hb' => ?_
    have k1 := (o1.2.ge b o' hb).1
    have k2 := (o.2.ge b' o'' hb').2
    have := e2.size
    omega
  obtain ⟨p4, c4, w20, hrun2, hm20, hg2⟩ := append_bytes hm16 hat o1.1 o1.2.isNil (Nat.le_trans hB b16.size) (by omega)
  have e : l ++ [UInt8.ofNat (widthN s)] ++ packB s (widthN s : Int) = l ++ packedL s := by simp [packedL]
  rw [e] at hm20
  have ho := o.1
  exact ⟨p4, _, c4, w20, hrun2, p4, _, c4, rfl, ⟨by rw [← e]; simp only [List.length_append, List.length_cons, List.length_nil]; omega, hm20⟩, hm16.below hg2 b16 (Nat.le_refl _) (Nat.le_trans hB b16.size)⟩

/-- The least of numbers. -/
theorem minI_ok (w : World) {p : Option Addr} {n c : Nat} {l : List Int} (h : Is w p n c l) (h0 : 0 < n) : Calls Try.prog 65 #[.slice p n c] w fun e w' => e = .returned (.int .i64 (lowL l)) ∧ Ext w w' := by
  have hlen := h.len
  have hle : n ≤ 9223372036854775807 := h.le
  apply minI_vc
  unfold minI_T
  obtain ⟨x0, hx0⟩ : ∃ x, l[0]? = some x := ⟨_, List.getElem?_eq_getElem (by omega)⟩
  obtain ⟨b, o, hp, hc⟩ := h.lies.getZ hx0
  refine ⟨fun h => by omega, fun _ => ⟨b, o, hp, by omega, by omega, x0, hc, fun a i w' => ∃ k : Nat, i = (k : Int) ∧ 0 < k ∧ k ≤ n ∧ a = lowL (l.take k) ∧ Ext w w', fun _ i _ => n - i.toNat, ⟨1, rfl, by omega, by omega, ?_, .rfl⟩, ?_⟩⟩
  · rw [take_snoc hx0]; simp [lowL]
  rintro a i w' ⟨k, rfl, hk0, hk, rfl, hx⟩
  refine ⟨fun hlt => ?_, fun hge => ?_⟩
  · obtain ⟨x, hxk⟩ : ∃ x, l[k]? = some x := ⟨_, List.getElem?_eq_getElem (by omega)⟩
    obtain ⟨b, o, hp, hc⟩ := (h.ext hx).lies.getZ hxk
    refine ⟨b, o, hp, by omega, by omega, x, by rw [Int.toNat_natCast]; exact hc, ?_⟩
    rw [i64_next (by omega), show mmI false (lowL (l.take k)) x = min (lowL (l.take k)) x by unfold mmI; dsimp only; split <;> omega]
    exact ⟨⟨k + 1, rfl, by omega, by omega, (lowL_snoc hk0 hxk).symm, hx⟩, by simp only [Int.toNat_natCast]; omega⟩
  · rw [List.take_of_length_le (by omega)]
    exact ⟨rfl, hx⟩

/-! ### The document's forms -/
theorem plainL_snoc {l : List Int} {k : Nat} {x : Int} (hx : l[k]? = some x) : plainL (l.take (k + 1)) = plainL (l.take k) ++ sgn x := by rw [take_snoc hx]; simp [plainL]

theorem rruns_ok (w : World) {p q : Option Addr} {n c m d B : Nat} {l : List Int} {base : List UInt8} (h : Is w p n c l) (hn : n ≤ 4096) (o : OutB B 5 w q m d base) (hB : B ≤ w.heap.size) (hm : m ≤ 100) :
    Calls Try.prog 66 #[.slice q m d, .slice p n c] w fun e w' => ∃ q' m' d', e = .returned (.slice q' m' d') ∧ OutB B 5 w' q' m' d' (base ++ runB (runsW l)) ∧ Ext w w' := by
  have hlen := h.len
  have hbase := o.1
  apply rruns_vc
  unfold rruns_T
  refine ⟨fun q m d from_ i w' => ∃ (f k : Nat) (R : List (Nat × Int)), from_ = (f : Int) ∧ i = (k : Int) ∧ k ≤ n + 1 ∧ runsW l = R ++ runsW (l.drop f) ∧ (runB R).length ≤ 20 * f ∧ OutB B 5 w' q m d (base ++ runB R) ∧ Ext w w' ∧
      ((k ≤ n ∧ f < k ∧ ∃ x, ∀ j, f ≤ j → j < k → l[j]? = some x) ∨ (k = n + 1 ∧ f = n)), fun _ _ _ _ i _ => n + 1 - i.toNat, ?_, ?_⟩
  · refine ⟨0, 1, [], rfl, rfl, by omega, by simp, by simp [runB], by simpa [runB] using o, .rfl, ?_⟩
    rcases Nat.eq_zero_or_pos n with hz | hpos
    · right; omega
    · left
      refine ⟨by omega, by omega, l[0]'(by omega), fun j h1 h2 => ?_⟩
      obtain rfl : j = 0 := by omega
      exact List.getElem?_eq_getElem (by omega)
  rintro q m d from_ i w' ⟨f, k, R, rfl, rfl, hk, hR, hRl, ho, hx, hcase⟩
  have hom := ho.1
  rw [List.length_append] at hom
  -- a run ends here
  have emit : k ≤ n → f < k → ∀ x, (∀ j, f ≤ j → j < k → l[j]? = some x) → (∀ y, l[k]? = some y → y ≠ x) → ∀ w2, Ext w' w2 →
      Calls Try.prog 42 #[.slice q m d, .int .u64 (IntKind.u64.wrap (IntKind.i64.wrap ((k : Int) - (f : Int))))] w2 fun e19 w20 => ∃ p21 n22 c23, e19 = .returned (.slice p21 n22 c23) ∧ Same w2 w20 ∧
        Calls Try.prog 43 #[.slice p21 n22 c23, .int .i64 x] w20 fun e24 w25 => ∃ p26 n27 c28, e24 = .returned (.slice p26 n27 c28) ∧
          (∃ (f' k' : Nat) (R' : List (Nat × Int)), (k : Int) = (f' : Int) ∧ IntKind.i64.wrap ((k : Int) + 1) = (k' : Int) ∧ k' ≤ n + 1 ∧ runsW l = R' ++ runsW (l.drop f') ∧ (runB R').length ≤ 20 * f' ∧ OutB B 5 w25 p26 n27 c28 (base ++ runB R') ∧ Ext w w25 ∧
            ((k' ≤ n ∧ f' < k' ∧ ∃ x, ∀ j, f' ≤ j → j < k' → l[j]? = some x) ∨ (k' = n + 1 ∧ f' = n))) ∧ n + 1 - (IntKind.i64.wrap ((k : Int) + 1)).toNat < n + 1 - (k : Int).toNat := by
    intro hkn hfk x hrun hstop w2 hx2
    have hxl : x ∈ l := List.mem_of_getElem? (hrun f (by omega) hfk)
    have hxf := h.fit x hxl
    have ef : IntKind.u64.wrap (IntKind.i64.wrap ((k : Int) - (f : Int))) = ((k - f : Nat) : Int) := by rw [show (k : Int) - (f : Int) = ((k - f : Nat) : Int) by omega, i64_nat (by omega), u64_nat (by omega)]
    rw [ef, i64_next (by omega)]
    have hin : In w2 q m d (base ++ runB R) := ⟨ho.1, ho.2.cap, (ho.2.ext hx2).at, ho.2.isNil⟩
    refine (refNumber_out w2 hin (by omega) (by omega : k - f < 18446744073709551616)).mono ?_
    rintro e w20 ⟨q2, m2, d2, rfl, o2, e20⟩
    have hm2 := o2.1
    have hu1 : (uvar (k - f)).length ≤ 10 := uvar_len10 (by omega)
    have hu2 := sgn_len hxf
    rw [List.length_append, List.length_append] at hm2
    refine ⟨q2, m2, d2, rfl, e20.same, (refSigned_out w20 o2.inn (by omega) hxf.1 hxf.2).mono ?_⟩
    rintro e w25 ⟨q3, m3, d3, rfl, o3, e25⟩
    have hrw : runsW (l.drop f) = (k - f, x) :: runsW (l.drop k) := by
      have := runsW_run (l := l) (x := x) (f := f) (m := k - f - 1) (fun i hi => hrun (f + i) (by omega) (by omega)) (fun y hy => hstop y (by rw [show k = f + (k - f - 1) + 1 by omega]; exact hy))
      rwa [show k - f - 1 + 1 = k - f by omega, show f + (k - f - 1) + 1 = k by omega] at this
    have eb : base ++ runB R ++ uvar (k - f) ++ uvar (zigN x) = base ++ runB (R ++ [(k - f, x)]) := by simp [runB, sgn]
    have x25 : Ext w w25 := hx.trans (hx2.trans (e20.trans e25))
    rw [eb] at o3
    refine ⟨q3, m3, d3, rfl, ⟨k, k + 1, R ++ [(k - f, x)], rfl, rfl, by omega, by rw [hR, hrw, List.append_assoc]; rfl, ?_, ⟨o3.1, o3.2.mono (Nat.le_trans hB (hx.trans (hx2.trans e20)).size)⟩, x25, ?_⟩, by omega⟩
    · rw [runB_append, List.length_append]
      have : (runB [(k - f, x)]).length = (uvar (k - f)).length + (sgn x).length := by simp [runB]
      omega
    · rcases Nat.lt_or_ge k n with hlt | hge
      · left
        refine ⟨by omega, by omega, l[k]'(by omega), fun j h1 h2 => ?_⟩
        obtain rfl : j = k := by omega
        exact List.getElem?_eq_getElem (by omega)
      · right; omega
  refine ⟨fun hle w11 hd => ?_, fun hgt => ?_⟩
  · have hkn : k ≤ n := by omega
    rcases hcase with ⟨_, hfk, x, hrun⟩ | ⟨_, _⟩
    · have x11 := hx.trans hd.ext
      refine ⟨fun heq w14 hd2 => ?_, fun hne => ?_⟩
      · obtain ⟨b, o', hp, hc⟩ := (h.ext (x11.trans hd2.ext)).lies.getZ (hrun f (by omega) hfk)
        exact ⟨b, o', hp, by omega, by omega, x, by rw [Int.toNat_natCast]; exact hc, emit hkn hfk x hrun (fun y hy => by rw [List.getElem?_eq_none (by omega)] at hy; cases hy) w14 (hd.ext.trans hd2.ext)⟩
      · obtain ⟨y, hy⟩ : ∃ y, l[k]? = some y := ⟨_, List.getElem?_eq_getElem (by omega)⟩
        obtain ⟨b, o', hp, hc⟩ := (h.ext x11).lies.getZ hy
        obtain ⟨b2, o2, hp2, hc2⟩ := (h.ext x11).lies.getZ (hrun f (by omega) hfk)
        refine ⟨b, o', hp, by omega, by omega, y, by rw [Int.toNat_natCast]; exact hc, b2, o2, hp2, by omega, by omega, x, by rw [Int.toNat_natCast]; exact hc2, fun hyx w37 hd3 => ?_, fun hyx => ?_⟩
        · obtain ⟨b3, o3, hp3, hc3⟩ := (h.ext (x11.trans hd3.ext)).lies.getZ (hrun f (by omega) hfk)
          exact ⟨b3, o3, hp3, by omega, by omega, x, by rw [Int.toNat_natCast]; exact hc3, emit hkn hfk x hrun (fun z hz => by rw [hy] at hz; cases hz; exact hyx) w37 (hd.ext.trans hd3.ext)⟩
        · subst hyx
          rw [i64_next (by omega)]
          refine ⟨⟨f, k + 1, R, rfl, rfl, by omega, hR, hRl, ho.ext hd.ext, x11, .inl ⟨by omega, by omega, y, fun j h1 h2 => ?_⟩⟩, by simp only [Int.toNat_natCast]; omega⟩
          rcases Nat.lt_or_ge j k with hlt | hge
          · exact hrun j h1 hlt
          · obtain rfl : j = k := by omega
            exact hy
    · omega
  · rcases hcase with ⟨h1, _, _⟩ | ⟨_, rfl⟩
    · omega
    · rw [List.drop_of_length_le (by omega), runsW_nil, List.append_nil] at hR
      rw [← hR] at ho
      exact ⟨q, m, d, rfl, ho, hx⟩

theorem rsteps_ok (w : World) {p q : Option Addr} {n c m d B : Nat} {l : List Int} {base : List UInt8} (h : Is w p n c l) (hn : n ≤ 4096) (o : OutB B 5 w q m d base) (hB : B ≤ w.heap.size) (hm : m ≤ 100) :
    Calls Try.prog 67 #[.slice q m d, .slice p n c] w fun e w' => ∃ q' m' d', e = .returned (.slice q' m' d') ∧ OutB B 5 w' q' m' d' (base ++ (if l = [] then [] else sgn (l.getD 0 0) ++ packedL (stepsL l))) ∧ Ext w w' := by
  have hlen := h.len
  have hbase := o.1
  apply rsteps_vc
  unfold rsteps_T
  refine ⟨fun h0 => ?_, fun h0 => ?_⟩
  · have hl : l = [] := List.eq_nil_of_length_eq_zero (by omega)
    exact ⟨q, m, d, rfl, by rw [if_pos hl, List.append_nil]; exact o, .rfl⟩
  have hl : l ≠ [] := by rintro rfl; simp at hlen; omega
  refine ⟨fun ps ns cs i w' => ∃ k : Nat, i = (k : Int) ∧ 1 ≤ k ∧ k ≤ n ∧ ns = k - 1 ∧ Hold w w' [] [⟨48, 1, ps, ns, cs, vN .u64 ((stepsL l).take (k - 1))⟩], fun _ _ _ i _ => n - i.toNat, ⟨1, rfl, Nat.le_refl _, by omega, rfl, ?_⟩, ?_⟩
  · exact (Hold.start (.rfl : Ext w w)).nilRow 48 1
  rintro ps ns cs i w' ⟨k, rfl, hk1, hk, rfl, H⟩
  refine ⟨fun hlt w12 hd => ?_, fun hge => ?_⟩
  · obtain ⟨y, hy⟩ : ∃ y, l[k]? = some y := ⟨_, List.getElem?_eq_getElem (by omega)⟩
    obtain ⟨x, hx⟩ : ∃ x, l[k - 1]? = some x := ⟨_, List.getElem?_eq_getElem (by omega)⟩
    have H12 := H.step hd.ext
    obtain ⟨b1, o1, hp1, hc1⟩ := (h.ext H12.ext).lies.getZ hy
    obtain ⟨b2, o2, hp2, hc2⟩ := (h.ext H12.ext).lies.getZ hx
    have ek : IntKind.i64.wrap ((k : Int) - 1) = ((k - 1 : Nat) : Int) := by rw [show (k : Int) - 1 = ((k - 1 : Nat) : Int) by omega, i64_nat (by omega)]
    rw [ek, i64_next (by omega)]
    refine ⟨b1, o1, hp1, by omega, by omega, y, by rw [Int.toNat_natCast]; exact hc1, b2, o2, hp2, by omega, by omega, x, by rw [Int.toNat_natCast]; exact hc2, (zig_ok w12 (wrap_fit _).1 (wrap_fit _).2).mono ?_⟩
    rintro e w21 ⟨rfl, e21⟩
    refine ⟨_, rfl, fun b23 w24 h23 => ?_⟩
    obtain ⟨p', c', w29, hrun, H29⟩ := app_u64 (H12.step e21) 0 rfl h23 (by omega)
    refine ⟨p', _, c', w29, hrun, ⟨k + 1, rfl, by omega, by omega, by omega, ?_⟩, by simp only [Int.toNat_natCast]; omega⟩
    have hst := stepsL_get hx (by rw [show k - 1 + 1 = k by omega]; exact hy)
    have : (stepsL l).take (k + 1 - 1) = (stepsL l).take (k - 1) ++ [zigN (IntKind.i64.wrap (y - x))] := by rw [show k + 1 - 1 = (k - 1) + 1 by omega, take_snoc hst]
    rw [this, show k - 1 + 1 = k by omega] at *
    exact H29
  · have hkn : k = n := by omega
    subst hkn
    obtain ⟨x, hx⟩ : ∃ x, l[0]? = some x := ⟨_, List.getElem?_eq_getElem (by omega)⟩
    have hxf := h.fit x (List.mem_of_getElem? hx)
    obtain ⟨b1, o1, hp1, hc1⟩ := (h.ext H.ext).lies.getZ hx
    have hin : In w' q m d base := ⟨o.1, o.2.cap, (o.2.ext H.ext).at, o.2.isNil⟩
    refine ⟨b1, o1, hp1, by omega, by omega, x, hc1, (refSigned_out w' hin (by omega) hxf.1 hxf.2).mono ?_⟩
    rintro e w35 ⟨q2, m2, d2, rfl, o2, e35⟩
    have hm2 := o2.1
    have hu := sgn_len hxf
    unfold sgn at hu
    rw [List.length_append] at hm2
    have hrow := (H.row 0 rfl).ext e35
    rw [List.take_of_length_le (by rw [stepsL_length]; omega)] at hrow
    have hus : Us w35 ps (k - 1) cs (stepsL l) := ⟨by rw [stepsL_length]; omega, hrow.cap, hrow.at, hrow.isNil, stepsL_lt⟩
    refine ⟨q2, m2, d2, rfl, (rpacked_ok w35 hus (by omega) o2 e35.size (by omega)).mono ?_⟩
    rintro e w40 ⟨q3, m3, d3, rfl, o3, b3⟩
    have e0 : l.getD 0 0 = x := by simp [List.getD_eq_getElem?_getD, hx]
    refine ⟨q3, m3, d3, rfl, q3, m3, d3, rfl, ?_, (H.ext.trans e35).below.trans (b3.mono H.ext.size)⟩
    rw [if_neg hl, e0, sgn, ← List.append_assoc]
    exact ⟨o3.1, o3.2.mono (Nat.le_trans hB H.ext.size)⟩

theorem rframe_ok (w : World) {p q : Option Addr} {n c m d B : Nat} {l : List Int} {base : List UInt8} (h : Is w p n c l) (hn : n ≤ 4096) (o : OutB B 5 w q m d base) (hB : B ≤ w.heap.size) (hm : m ≤ 100) :
    Calls Try.prog 68 #[.slice q m d, .slice p n c] w fun e w' => ∃ q' m' d', e = .returned (.slice q' m' d') ∧ OutB B 5 w' q' m' d' (base ++ (if l = [] then [] else sgn (lowL l) ++ packedL (frameL l))) ∧ Ext w w' := by
  have hlen := h.len
  have hbase := o.1
  apply rframe_vc
  unfold rframe_T
  refine ⟨fun h0 => ?_, fun h0 => ?_⟩
  · have hl : l = [] := List.eq_nil_of_length_eq_zero (by omega)
    exact ⟨q, m, d, rfl, by rw [if_pos hl, List.append_nil]; exact o, .rfl⟩
  have hl : l ≠ [] := by rintro rfl; simp at hlen; omega
  have hlow := h.fit _ (lowL_mem hl)
  obtain ⟨x0, hx0⟩ : ∃ x, l[0]? = some x := ⟨_, List.getElem?_eq_getElem (by omega)⟩
  obtain ⟨b, o', hp, hc⟩ := h.lies.getZ hx0
  refine ⟨b, o', hp, by omega, by omega, x0, hc, fun a i w' => ∃ k : Nat, i = (k : Int) ∧ k ≤ n ∧ a = (if k = 0 then x0 else lowL (l.take k)) ∧ Ext w w', fun _ i _ => n - i.toNat, ⟨0, rfl, by omega, rfl, .rfl⟩, ?_⟩
  rintro a i w' ⟨k, rfl, hk, rfl, hx⟩
  refine ⟨fun hlt => ?_, fun hge => ?_⟩
  · obtain ⟨x, hxk⟩ : ∃ x, l[k]? = some x := ⟨_, List.getElem?_eq_getElem (by omega)⟩
    obtain ⟨b, o', hp, hc⟩ := (h.ext hx).lies.getZ hxk
    refine ⟨b, o', hp, by omega, by omega, x, by rw [Int.toNat_natCast]; exact hc, ?_⟩
    rw [i64_next (by omega)]
    refine ⟨⟨k + 1, rfl, by omega, ?_, hx⟩, by simp only [Int.toNat_natCast]; omega⟩
    rw [if_neg (by omega : k + 1 ≠ 0)]
    have emm : ∀ a b : Int, mmI false a b = min a b := fun a b => by unfold mmI; dsimp only; split <;> omega
    rw [emm]
    by_cases hk0 : k = 0
    · subst hk0
      rw [hx0] at hxk; cases hxk
      rw [if_pos rfl, take_snoc hx0]; simp [lowL]
    · rw [if_neg hk0, lowL_snoc (by omega) hxk]
  · have hkn : k = n := by omega
    subst hkn
    rw [if_neg (by omega), List.take_of_length_le (by omega)]
    refine ⟨fun ps ns cs i w' => ∃ j : Nat, i = (j : Int) ∧ j ≤ k ∧ ns = j ∧ Hold w w' [] [⟨48, 1, ps, ns, cs, vN .u64 ((frameL l).take j)⟩], fun _ _ _ i _ => k - i.toNat, ⟨0, rfl, Nat.zero_le _, rfl, (Hold.start hx).nilRow 48 1⟩, ?_⟩
    rintro ps ns cs i w3 ⟨j, rfl, hj, rfl, H⟩
    refine ⟨fun hlt => ?_, fun hge => ?_⟩
    · obtain ⟨x, hxj⟩ : ∃ x, l[ns]? = some x := ⟨_, List.getElem?_eq_getElem (by omega)⟩
      have hxm := List.mem_of_getElem? hxj
      have hxf := h.fit x hxm
      have hge := lowL_le x hxm
      obtain ⟨b, o', hp, hc⟩ := (h.ext H.ext).lies.getZ hxj
      have ev : IntKind.u64.wrap (IntKind.u64.wrap x - IntKind.u64.wrap (lowL l)) = (((x - lowL l).toNat : Nat) : Int) := by
        unfold i64B at hxf hlow
        rw [u64_wrap, u64_wrap, u64_wrap]; omega
      rw [i64_next (by omega)]
      refine ⟨b, o', hp, by omega, by omega, x, by rw [Int.toNat_natCast]; exact hc, fun b29 w30 h29 => ?_⟩
      rw [ev] at h29
      obtain ⟨p', c', w35, hrun, H35⟩ := app_u64 H 0 rfl h29 (by omega)
      refine ⟨p', _, c', w35, hrun, ⟨ns + 1, rfl, by omega, rfl, ?_⟩, by simp only [Int.toNat_natCast]; omega⟩
      have hfr : (frameL l)[ns]? = some (x - lowL l).toNat := by simp [frameL, hxj]
      rw [take_snoc hfr]
      exact H35
    · have hjn : ns = k := by omega
      subst hjn
      have hin : In w3 q m d base := ⟨o.1, o.2.cap, (o.2.ext H.ext).at, o.2.isNil⟩
      refine (refSigned_out w3 hin (by omega) hlow.1 hlow.2).mono ?_
      rintro e w38 ⟨q2, m2, d2, rfl, o2, e38⟩
      have hm2 := o2.1
      have hu := sgn_len hlow
      unfold sgn at hu
      rw [List.length_append] at hm2
      have hrow := (H.row 0 rfl).ext e38
      have hfl : (frameL l).length = ns := by simp [frameL, hlen]
      rw [List.take_of_length_le (by omega)] at hrow
      have hus : Us w38 ps ns cs (frameL l) := ⟨hfl, hrow.cap, hrow.at, hrow.isNil, frameL_lt h.fit⟩
      refine ⟨q2, m2, d2, rfl, (rpacked_ok w38 hus (by omega) o2 e38.size (by omega)).mono ?_⟩
      rintro e w43 ⟨q3, m3, d3, rfl, o3, b3⟩
      refine ⟨q3, m3, d3, rfl, q3, m3, d3, rfl, ?_, (H.ext.trans e38).below.trans (b3.mono H.ext.size)⟩
      rw [if_neg hl, sgn, ← List.append_assoc]
      exact ⟨o3.1, o3.2.mono (Nat.le_trans hB H.ext.size)⟩
end Go.Proofs.Ytdclhgcgpcddlaa
