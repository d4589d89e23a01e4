/- Lists of numbers in few bytes: Encode and Best, the document's and the program's. -/
import Derived.Test.YtdclhgcgpcddlaaIntsB
namespace Go.Proofs.Ytdclhgcgpcddlaa
open Go Go.Vc Go.RowKit

theorem encL_len {f : Nat} {l : List Int} (h : ∀ x ∈ l, i64B x) (hn : l.length ≤ 4096) : (encL f l).length ≤ 1000000 := by
  have hp := plainL_len h
  have hst := packedL_len (s := stepsL l) (by rw [stepsL_length]; omega) stepsL_lt
  have hfr := packedL_len (s := frameL l) (by simp [frameL]; omega) (frameL_lt h)
  have h1 : l ≠ [] → (sgn (l.getD 0 0)).length ≤ 10 := fun hl => sgn_len (h _ (by cases l with | nil => exact absurd rfl hl | cons a r => simp))
  have h2 : l ≠ [] → (sgn (lowL l)).length ≤ 10 := fun hl => sgn_len (h _ (lowL_mem hl))
  have hr : (runB (runsW l)).length ≤ 20 * l.length := by
    have key : ∀ k (l : List Int), l.length ≤ k → (∀ x ∈ l, i64B x) → l.length ≤ 4096 → (runB (runsW l)).length ≤ 20 * l.length := by
      intro k
      induction k with
      | zero => intro l hl _ _; have := List.eq_nil_of_length_eq_zero (Nat.le_zero.1 hl); subst this; rw [runsW_nil]; simp [runB]
      | succ k ih =>
        intro l hl hf h4
        cases l with
        | nil => rw [runsW_nil]; simp [runB]
        | cons x r =>
          have hd := headRun_le x r
          simp only [List.length_cons] at hl h4
          have := ih (r.drop (headRun x r)) (by simp; omega) (fun y hy => hf y (List.mem_cons_of_mem _ (List.mem_of_mem_drop hy))) (by simp; omega)
          have h3 := sgn_len (hf x (by simp))
          have h5 : (uvar (headRun x r + 1)).length ≤ 10 := uvar_len10 (by omega)
          rw [runsW]
          simp only [runB, List.flatMap_cons, List.length_append, List.length_cons, List.length_drop] at this ⊢
          omega
    exact key _ l (Nat.le_refl _) h hn
  unfold encL
  split
  · simp only [List.length_cons]; omega
  · simp only [List.length_cons]; omega
  · split
    · simp
    · rename_i hl; have := h1 hl; simp only [List.length_cons, List.length_append]; omega
  · split
    · simp
    · rename_i hl; have := h2 hl; simp only [List.length_cons, List.length_append]; omega

theorem rencode_ok (w : World) {p : Option Addr} {n c : Nat} {l : List Int} (h : Is w p n c l) (form : Int) :
    Calls Try.prog 49 #[.int .i64 form, .slice p n c] w fun e w' => ∃ q m d, e = .returned (.tuple #[.slice q m d, .int .i64 (encE form l)]) ∧ OutB w.heap.size 5 w' q m d (encB form l) ∧ Ext w w' := by
  have hlen := h.len
  apply rencode_vc
  unfold rencode_T
  refine ⟨fun hbad => ?_, fun hok b3 w4 h3 => ?_⟩
  · have hno : ¬ ((0 ≤ form ∧ form ≤ 3) ∧ l.length ≤ 4096) := by omega
    exact ⟨none, 0, 0, by rw [encE, if_neg hno], by rw [encB, if_neg hno]; exact ⟨rfl, Mine.nil _ _ _ _⟩, .rfl⟩
  have hyes : (0 ≤ form ∧ form ≤ 3) ∧ l.length ≤ 4096 := by omega
  have eE : encE form l = 0 := by rw [encE, if_pos hyes]
  have eB : encB form l = encL form.toNat l := by rw [encB, if_pos hyes]
  rw [eE, eB]
  have o0 : OutB w.heap.size 5 w4 (some ⟨b3, 0, none⟩) 1 1 [UInt8.ofNat form.toNat] := by
    refine ⟨rfl, ?_⟩
    have e : IntKind.u8.wrap form = (((UInt8.ofNat form.toNat).toNat : Nat) : Int) := by
      have := u8_of (n := form.toNat) (by omega)
      rwa [Int.toNat_of_nonneg hok.1.1] at this
    rw [e] at h3
    exact Mine.lit h3 (Nat.le_refl _) (by simp [maxLen]) rfl
  have hl4 := h.ext h3.ext
  have hsz := h3.ext.size
  have h4 : form = 0 ∨ form = 1 ∨ form = 2 ∨ form = 3 := by omega
  rcases h4 with rfl | rfl | rfl | rfl
  · refine ⟨fun h => by omega, fun _ => ⟨fun h => by omega, fun _ => ⟨fun h => by omega, fun _ => ?_⟩⟩⟩
    refine ⟨fun q m d i w' => ∃ k : Nat, i = (k : Int) ∧ k ≤ n ∧ OutB w.heap.size 5 w' q m d (0 :: plainL (l.take k)) ∧ Ext w w', fun _ _ _ i _ => n - i.toNat, ⟨0, rfl, Nat.zero_le _, by simpa [plainL] using o0, h3.ext⟩, ?_⟩
    rintro q m d i w' ⟨k, rfl, hk, ho, hx⟩
    refine ⟨fun hlt => ?_, fun hge => ?_⟩
    · obtain ⟨x, hxk⟩ : ∃ x, l[k]? = some x := ⟨_, List.getElem?_eq_getElem (by omega)⟩
      have hxf := h.fit x (List.mem_of_getElem? hxk)
      obtain ⟨b, o', hp, hc⟩ := (h.ext hx).lies.getZ hxk
      have hin : In w' q m d (0 :: plainL (l.take k)) := ⟨ho.1, ho.2.cap, ho.2.at, ho.2.isNil⟩
      have hpl := plainL_len (l := l.take k) fun y hy => h.fit y (List.mem_of_mem_take hy)
      have hm := ho.1
      simp only [List.length_cons, List.length_take] at hm hpl
      refine ⟨b, o', hp, by omega, by omega, x, by rw [Int.toNat_natCast]; exact hc, (refSigned_out w' hin (by omega) hxf.1 hxf.2).mono ?_⟩
      rintro e w40 ⟨q2, m2, d2, rfl, o2, e40⟩
      rw [i64_next (by omega)]
      refine ⟨q2, m2, d2, rfl, ⟨k + 1, rfl, by omega, ?_, hx.trans e40⟩, by simp only [Int.toNat_natCast]; omega⟩
      rw [plainL_snoc hxk, ← List.cons_append]
      exact ⟨o2.1, o2.2.mono hx.size⟩
    · have : k = n := by omega
      subst this
      rw [List.take_of_length_le (by omega)] at ho
      exact ⟨q, m, d, rfl, ho, hx⟩
  · refine ⟨fun _ => (rruns_ok w4 hl4 (by omega) o0 hsz (by omega)).mono ?_, fun h => absurd rfl h⟩
    rintro e w8 ⟨q, m, d, rfl, o, e8⟩
    exact ⟨q, m, d, rfl, q, m, d, rfl, o, h3.ext.trans e8⟩
  · refine ⟨fun h => by omega, fun _ => ⟨fun _ => (rsteps_ok w4 hl4 (by omega) o0 hsz (by omega)).mono ?_, fun h => absurd rfl h⟩⟩
    rintro e w8 ⟨q, m, d, rfl, o, e8⟩
    exact ⟨q, m, d, rfl, q, m, d, rfl, o, h3.ext.trans e8⟩
  · refine ⟨fun h => by omega, fun _ => ⟨fun h => by omega, fun _ => ⟨fun _ => (rframe_ok w4 hl4 (by omega) o0 hsz (by omega)).mono ?_, fun h => absurd rfl h⟩⟩⟩
    rintro e w8 ⟨q, m, d, rfl, o, e8⟩
    exact ⟨q, m, d, rfl, q, m, d, rfl, o, h3.ext.trans e8⟩

/-! ### The program's runs -/
theorem inRuns_ok (w : World) {p : Option Addr} {n c : Nat} : Calls Try.prog 62 #[.slice p n c] w fun e w' => ∃ b1, e = .returned (.func (.func 77) #[] #[.pointer (some ⟨b1, 0, none⟩)]) ∧
    ∀ fs ms w0, Hold w0 w fs ms → Hold w0 w' ((b1, .cells #[.slice p n c] 63) :: fs) ms := by
  apply inRuns_vc
  unfold inRuns_T
  intro b1 w2 h1
  exact ⟨b1, rfl, fun fs ms w0 h => h.new h1⟩

theorem runs_rounds {l0 b1 n c : Nat} {p : Option Addr} {l : List Int} (w0 : World) (hl : Is w0 p n c l) (hn : n ≤ 4096) (Inv : Nat → Value → World → Prop) (w : World) (h0 : Inv 0 (.slice p n c) w)
    (hblk : ∀ f v W, Inv f v W → Blk W b1 63 #[v]) (hex : ∀ f v W, Inv f v W → Ext w0 W) (hdr : ∀ f v W W', Inv f v W → Drew W W' → Inv f v W') (hput : ∀ f v v' W W', Inv f v W → Put W b1 0 [v'] W' → Inv f v' W')
    (hy : ∀ f v W (R : Bool → World → Prop) m x, runsW (l.drop f) = (m + 1, x) :: runsW (l.drop (f + m + 1)) → f + m + 1 ≤ n → l[f]? = some x → Inv f v W → (∀ W', Inv (f + m + 1) v W' → R true W') →
      Yield Try.prog l0 #[.int .i64 ((m + 1 : Nat) : Int), .int .i64 x] W R) :
    Calls Try.prog 77 #[.func (.yield l0) #[] #[], .pointer (some ⟨b1, 0, none⟩)] w fun e W' => e = .returned (.tuple #[]) ∧ ∃ v, Inv n v W' := by
  have hlen := hl.len
  apply inRuns1_vc
  unfold inRuns1_T
  let M : World → Nat := fun W => match W.cell? ⟨b1, 0, none⟩ with | some (.slice _ k _) => k | _ => 0
  refine ⟨fun W => ∃ (f : Nat) (q : Option Addr), f ≤ n ∧ Inv f (.slice q (n - f) (c - f)) W ∧ At w0 q (vI .i64 (l.drop f)) ∧ (q = none → n - f = 0 ∧ c - f = 0), M, ⟨0, p, Nat.zero_le _, h0, hl.lies, hl.nil⟩, ?_⟩
  rintro W ⟨f, q, hf, hI, hat, hnil⟩
  have hcap := hl.cap
  refine ⟨q, n - f, c - f, (hblk _ _ _ hI).one, fun hpos => ?_, fun hle => ?_⟩
  · obtain ⟨x, hx⟩ : ∃ x, l[f]? = some x := ⟨_, List.getElem?_eq_getElem (by omega)⟩
    have hg : ∀ j y, l[f + j]? = some y → ∀ W', Ext w0 W' → ∃ b o, q = some ⟨b, o, none⟩ ∧ W'.cell? ⟨b, o + j, none⟩ = some (.int .i64 y) := by
      intro j y hy W' hW
      have : (l.drop f)[j]? = some y := by rw [List.getElem?_drop]; exact hy
      exact (hat.ext hW).getZ this
    -- a run ends here
    have done : ∀ m W', f + m + 1 ≤ n → (∀ j, j ≤ m → l[f + j]? = some x) → (∀ y, l[f + m + 1]? = some y → y ≠ x) → Inv f (.slice q (n - f) (c - f)) W' →
        Yield Try.prog l0 #[.int .i64 ((m + 1 : Nat) : Int), .int .i64 x] W' fun b40 w41 => (b40 = false → (Ending.returned (.tuple #[]) = .returned (.tuple #[]) ∧ ∃ v, Inv n v w41)) ∧ (b40 = true → ∃ p44 n45 c46, w41.cell? ⟨b1, 0, none⟩ = some (.slice p44 n45 c46) ∧ 0 ≤ ((m + 1 : Nat) : Int) ∧ ((m + 1 : Nat) : Int) ≤ (n45 : Int) ∧ (∃ u, w41.cell? ⟨b1, 0, none⟩ = some u) ∧ w41.frozen? ⟨b1, 0, none⟩ = false ∧
          ∀ w48, Put w41 b1 0 [.slice (slBase p44 ((m + 1 : Nat) : Int).toNat c46 1) (n45 - ((m + 1 : Nat) : Int).toNat) (c46 - ((m + 1 : Nat) : Int).toNat)] w48 →
            (∃ (f : Nat) (q : Option Addr), f ≤ n ∧ Inv f (.slice q (n - f) (c - f)) w48 ∧ At w0 q (vI .i64 (l.drop f)) ∧ (q = none → n - f = 0 ∧ c - f = 0)) ∧ M w48 < M W) := by
      intro m W' hm hrun hstop hI'
      have hrw := runsW_run (l := l) (x := x) (f := f) (m := m) hrun hstop
      refine hy f _ W' _ m x hrw hm hx hI' fun W2 hI2 => ⟨fun h => Bool.noConfusion h, fun _ => ⟨q, n - f, c - f, (hblk _ _ _ hI2).one, by omega, by omega, ⟨_, (hblk _ _ _ hI2).one⟩, (hblk _ _ _ hI2).frozen 0, fun w48 hp => ?_⟩⟩
      rw [Int.toNat_natCast] at hp
      have hI3 := hput _ _ _ _ _ hI2 hp
      have hsl := hat.slice (m + 1) (n - f) (c - f) 1 (by omega)
      rw [Nat.mul_one, Nat.mul_one, vI_take, vI_drop, List.take_of_length_le (by simp; omega), List.drop_drop, ← Nat.add_assoc] at hsl
      rw [Nat.sub_sub, Nat.sub_sub, ← Nat.add_assoc] at hI3
      refine ⟨⟨f + m + 1, _, hm, hI3, hsl, fun e => ?_⟩, ?_⟩
      · have := hnil (slBase_none e); omega
      · have e1 : M w48 = n - (f + m + 1) := by show (match w48.cell? ⟨b1, 0, none⟩ with | some (.slice _ k _) => k | _ => 0) = _; rw [(hblk _ _ _ hI3).one]
        have e2 : M W = n - f := by show (match W.cell? ⟨b1, 0, none⟩ with | some (.slice _ k _) => k | _ => 0) = _; rw [(hblk _ _ _ hI).one]
        omega
    refine ⟨fun i W' => ∃ m : Nat, i = ((m + 1 : Nat) : Int) ∧ f + m + 1 ≤ n ∧ (∀ j, j ≤ m → l[f + j]? = some x) ∧ Inv f (.slice q (n - f) (c - f)) W', fun i _ => n - i.toNat, ⟨0, rfl, by omega, fun j hj => ?_, hI⟩, ?_⟩
    · obtain rfl : j = 0 := by omega
      exact hx
    rintro i W' ⟨m, rfl, hm, hrun, hI'⟩ w14 hd
    have hI14 := hdr _ _ _ _ hI' hd
    have hX := hex _ _ _ hI14
    refine ⟨q, n - f, c - f, (hblk _ _ _ hI14).one, fun hlt => ?_, fun hge => ?_⟩
    · obtain ⟨y, hy'⟩ : ∃ y, l[f + (m + 1)]? = some y := ⟨_, List.getElem?_eq_getElem (by omega)⟩
      obtain ⟨b, o, hp, hc⟩ := hg (m + 1) y hy' _ hX
      obtain ⟨b2, o2, hp2, hc2⟩ := hg 0 x (by simpa using hx) _ hX
      refine ⟨q, n - f, c - f, (hblk _ _ _ hI14).one, b, o, hp, by omega, by omega, y, by rw [Int.toNat_natCast]; exact hc, q, n - f, c - f, (hblk _ _ _ hI14).one, b2, o2, hp2, by omega, by omega, x, hc2, fun hyx => ?_, fun hyx => ?_⟩
      · subst hyx
        rw [i64_next (by omega)]
        refine ⟨⟨m + 1, rfl, by omega, fun j hj => ?_, hI14⟩, by simp only [Int.toNat_natCast]; omega⟩
        rcases Nat.lt_or_ge j (m + 1) with h1 | h1
        · exact hrun j (by omega)
        · obtain rfl : j = m + 1 := by omega
          exact hy'
      · exact ⟨q, n - f, c - f, (hblk _ _ _ hI14).one, b2, o2, hp2, by omega, by omega, x, hc2, done m w14 hm hrun (fun z hz => by rw [Nat.add_assoc, hy'] at hz; cases hz; exact hyx) hI14⟩
    · obtain ⟨b2, o2, hp2, hc2⟩ := hg 0 x (by simpa using hx) _ hX
      exact ⟨q, n - f, c - f, (hblk _ _ _ hI14).one, b2, o2, hp2, by omega, by omega, x, hc2, done m w14 hm hrun (fun z hz => by rw [List.getElem?_eq_none (by omega)] at hz; cases hz) hI14⟩
  · have : f = n := by omega
    subst this
    exact ⟨rfl, _, hI⟩
end Go.Proofs.Ytdclhgcgpcddlaa
