/- The contracts of package order and of its document's answer: sorting, and the first ones. -/
import Derived.Test.YtgcjhhlokncbfaaOr1
import Derived.Test.YtgcjhhlokncbfaaSrt3
namespace Go.Vc
open Go Go.RowKit

theorem Far.keep {p : Option Addr} {W0 W : World} (h : Far p W0 W) {k : Nat} (hk : k < W0.heap.size) (hne : ∀ b, p = some ⟨b, 0, none⟩ → k ≠ b) : W.heap[k]? = W0.heap[k]? := by
  rcases h with ⟨_, e⟩ | ⟨b, hp, e⟩
  · exact e.block k hk
  · exact e.block k hk (hne b hp)
/-- A row's head. -/
def Row.sl (m : Row) : Sl := ⟨m.p, m.n, m.c⟩
theorem heads_map (l : List Sl) : l.map Sl.v = l.flatMap Sl.cs := by
  induction l with
  | nil => rfl
  | cons x l ih => rw [List.map_cons, List.flatMap_cons, ih]; rfl
theorem Rws.mk' {w : World} {p : Option Addr} {n c : Nat} {hs : List Sl} {L : List (List Val)} {val : Sl → List Val} (hh : Ls Sl.cs w p n c hs) (hL : hs.map val = L) (hv : ∀ x ∈ hs, Vs w x.p x.n x.c (val x)) : Rws w p n c hs L := by
  subst hL
  refine ⟨hh, fun i h r hi hr => ?_, by rw [List.length_map, hh.len]⟩
  rw [List.getElem?_map, hi] at hr
  cases hr
  exact hv h (List.mem_of_getElem? hi)
theorem Rws.vals {w : World} {p : Option Addr} {n c : Nat} {hs : List Sl} {L : List (List Val)} {val : Sl → List Val} (h : Rws w p n c hs L) (hval : ∀ (x : Sl) r, Vs w x.p x.n x.c r → val x = r) :
    hs.map val = L ∧ ∀ x ∈ hs, Vs w x.p x.n x.c (val x) := by
  have hlen := h.hlen
  have hL := h.len
  refine ⟨?_, fun x hx => ?_⟩
  · apply List.ext_getElem?
    intro i
    rw [List.getElem?_map]
    rcases Nat.lt_or_ge i n with hi | hi
    · have e1 : hs[i]? = some (hs[i]'(by omega)) := List.getElem?_eq_getElem _
      have e2 : L[i]? = some (L[i]'(by omega)) := List.getElem?_eq_getElem _
      rw [e1, e2]
      exact congrArg some (hval _ _ (h.rows i _ _ e1 e2))
    · rw [List.getElem?_eq_none (by omega), List.getElem?_eq_none (by omega)]; rfl
  · obtain ⟨i, hi⟩ := List.mem_iff_getElem?.1 hx
    have hlt := (List.getElem?_eq_some_iff.1 hi).1
    have e2 : L[i]? = some (L[i]'(by omega)) := List.getElem?_eq_getElem _
    have := h.rows i _ _ hi e2
    rw [hval _ _ this]; exact this
end Go.Vc

namespace Go.Proofs.Ytgcjhhlokncbfaa
open Go Go.Vc Go.RowKit

theorem undRow : Try.prog.underlying 23 = some (.slice 48) := by kernel_rfl
theorem undRows : Try.prog.underlying 31 = some (.slice 23) := by kernel_rfl
theorem tyVal : tyOf Try.prog 48 = some { agg := true, ls := [.int .i64, .int .i64, .str], zero := .agg #[.int .i64 0, .int .i64 0, .string ⟨#[]⟩], bytes := 32 } := by kernel_rfl
theorem tyRow : tyOf Try.prog 23 = some { agg := false, ls := [.slc], zero := .slice none 0 0, bytes := 24 } := by kernel_rfl

theorem clonerow_ok (w : World) {p : Option Addr} {n c : Nat} {r : List Val} (h : Vs w p n c r) (hsz : n ≤ 4398046511104) :
    Calls Try.prog 40 #[.slice p n c] w fun e w' => ∃ p' c', e = .returned (.slice p' n c') ∧ Vs w' p' n c' r ∧ Ext w w' ∧
      ∀ fs ms w0, Hold w0 w fs ms → Hold w0 w' fs (⟨48, 3, p', n, c', r.flatMap Val.cs⟩ :: ms) := by
  apply clonerow_vc
  unfold clonerow_T
  refine ⟨fun hn => ?_, fun hn b3 w4 h4 => ?_⟩
  · have hp : p = none := by cases p with | none => rfl | some _ => cases hn
    obtain ⟨rfl, rfl⟩ := h.nil hp
    have hr : r = [] := List.length_eq_zero_iff.1 h.len
    subst hr
    exact ⟨none, 0, rfl, Ls.nothing _ _, .rfl, fun fs ms w0 hH => hH.nilRow _ _⟩
  · have hp : p ≠ none := by rintro rfl; cases hn
    have Hb := (Hold.start (Ext.rfl (w := w))).litRow (s := 3) (cap := 0) h4 (Nat.zero_le _) rfl
    have hm := Hb.row 0 rfl
    obtain ⟨p', c', w9, hrun, hmine, hgrown, hp'⟩ := append_at (ty := 23) (P := Try.prog) (s := 3) (m := n) (d := c) undRow tyVal rfl (by decide) hm ((h.ext h4.ext).lies) (by rw [flatMap_length Val.cs_length, h.len]) (fun e => absurd e hp) (flatMap_one Val.cs_one r)
      h4.ext.size (by show ((0 + n) + (0 + n) / 4 + 192) * 32 ≤ 281474976710656; omega) (by have := h.le; simp [maxLen] at this ⊢; omega)
    rw [Nat.zero_add] at hrun
    have hnil : (#[] : Array Value).toList ++ r.flatMap Val.cs = r.flatMap Val.cs := rfl
    rw [hnil, Nat.zero_add] at hmine
    have step : ∀ fs ms w0, Hold w0 w fs ms → Hold w0 w9 fs (⟨48, 3, p', n, c', r.flatMap Val.cs⟩ :: ms) := by
      intro fs ms w0 hH
      have Hx := hH.litRow (s := 3) (cap := 0) h4 (Nat.zero_le _) rfl
      exact Hx.updRow 0 rfl ((Hx.row 0 rfl).grown hgrown) (hmine.mono hH.size) hp'
    have H9 := step [] [] w (Hold.start .rfl)
    exact ⟨p', n, c', w9, hrun, p', c', rfl, (H9.row 0 rfl).ls Val.cs_length (by decide), H9.ext, step⟩

/-- Each row is within the platform's reach. -/
def Sz (L : List (List Val)) : Prop := ∀ r ∈ L, r.length ≤ 4398046511104

theorem copied_ok (w : World) {p : Option Addr} {n c : Nat} {hs : List Sl} {L : List (List Val)} (h : Rws w p n c hs L) (hsz : Sz L) (hn : n ≤ 1099511627776) :
    Calls Try.prog 26 #[.slice p n c] w fun e w' => ∃ (p' : Option Addr) (c' : Nat) (cl : List Row), e = .returned (.slice p' n c') ∧ cl.length = n ∧
      Hold w w' [] (cl ++ [⟨23, 1, p', n, c', (cl.reverse.map Row.sl).map Sl.v⟩]) ∧ ∀ (i : Nat) m r, cl.reverse[i]? = some m → L[i]? = some r → m.t = 48 ∧ m.s = 3 ∧ m.vs = r.flatMap Val.cs := by
  apply ocopied_vc
  unfold ocopied_T
  have hlen := h.len
  refine ⟨fun p3 n4 c5 i W => ∃ (k : Nat) (cl : List Row), i = (k : Int) ∧ k ≤ n ∧ n4 = k ∧ cl.length = k ∧ Hold w W [] (cl ++ [⟨23, 1, p3, k, c5, (cl.reverse.map Row.sl).map Sl.v⟩]) ∧
    ∀ (i : Nat) m r, cl.reverse[i]? = some m → L[i]? = some r → m.t = 48 ∧ m.s = 3 ∧ m.vs = r.flatMap Val.cs, fun _ _ _ i _ => n - i.toNat, ⟨0, [], rfl, Nat.zero_le _, rfl, rfl, (Hold.start .rfl).nilRow _ _, by simp⟩, ?_⟩
  rintro p3 n4 c5 i W ⟨k, cl, rfl, hk, rfl, hcl, H, hrows⟩
  refine ⟨fun hlt => ?_, fun hge => ?_⟩
  · have g : L[n4]? = some (L[n4]'(by omega)) := List.getElem?_eq_getElem _
    generalize L[n4]'(by omega) = r at g
    obtain ⟨x, hx, hv, b, o, hp, c0⟩ := (h.ext H.ext).get g
    have hrl := hsz r (List.mem_of_getElem? g)
    have hvl := hv.len
    simp only [Int.toNat_natCast]
    refine ⟨b, o, hp, by omega, by omega, _, _, _, c0, (clonerow_ok W hv (by omega)).mono ?_⟩
    rintro e w16 ⟨p', c', rfl, hv', e16, step⟩
    refine ⟨_, _, _, rfl, fun b20 w21 h20 => ?_⟩
    have H16 := step _ _ _ H
    have H21 := H16.step h20.ext
    have hidx : (⟨48, 3, p', x.n, c', r.flatMap Val.cs⟩ :: (cl ++ [(⟨23, 1, p3, n4, c5, (cl.reverse.map Row.sl).map Sl.v⟩ : Row)]))[cl.length + 1]? = some ⟨23, 1, p3, n4, c5, (cl.reverse.map Row.sl).map Sl.v⟩ := by simp
    obtain ⟨p23, c25, w26, hrun, H26⟩ := H21.append (ty := 31) (P := Try.prog) (s := 1) (q := some ⟨b20, 0, none⟩) (m := 1) (d' := 1) (news := [.slice p' x.n c']) (cl.length + 1) hidx undRows tyRow rfl (by decide) h20.at rfl (fun e => by cases e)
      (by intro u hu; simp at hu; subst hu; rfl) (by show ((n4 + 1) + (n4 + 1) / 4 + 192) * 24 ≤ 281474976710656; omega) (by simp [maxLen]; omega)
    refine ⟨p23, n4 + 1, c25, w26, hrun, ?_⟩
    rw [i64_next (by omega)]
    refine ⟨⟨n4 + 1, ⟨48, 3, p', x.n, c', r.flatMap Val.cs⟩ :: cl, rfl, by omega, rfl, by simp [hcl], ?_, ?_⟩, by simp only [Int.toNat_natCast]; omega⟩
    · have e : (⟨48, 3, p', x.n, c', r.flatMap Val.cs⟩ :: (cl ++ [(⟨23, 1, p3, n4, c5, (cl.reverse.map Row.sl).map Sl.v⟩ : Row)])).set (cl.length + 1) ⟨23, 1, p23, n4 + 1, c25, (cl.reverse.map Row.sl).map Sl.v ++ [.slice p' x.n c']⟩
          = (⟨48, 3, p', x.n, c', r.flatMap Val.cs⟩ :: cl) ++ [⟨23, 1, p23, n4 + 1, c25, (((⟨48, 3, p', x.n, c', r.flatMap Val.cs⟩ : Row) :: cl).reverse.map Row.sl).map Sl.v⟩] := by
        simp [Row.sl, Sl.v]
      rw [e] at H26
      exact H26
    · intro i m r' hm hr'
      rw [List.reverse_cons] at hm
      rcases Nat.lt_or_ge i n4 with hi | hi
      · rw [List.getElem?_append_left (by simpa [hcl] using hi)] at hm
        exact hrows i m r' hm hr'
      · rw [List.getElem?_append_right (by simpa [hcl] using hi)] at hm
        have hi0 : i - cl.reverse.length = 0 := by
          have := (List.getElem?_eq_some_iff.1 hm).1
          simp only [List.length_cons, List.length_nil] at this
          omega
        have : i = n4 := by rw [List.length_reverse] at hi0; omega
        subst this
        rw [hi0] at hm
        rw [g] at hr'
        cases hr'
        cases hm
        exact ⟨rfl, rfl, rfl⟩
  · have : n4 = n := by omega
    subst this
    exact ⟨p3, c5, cl, rfl, hcl, H, hrows⟩

theorem oall1_ok (w : World) {p kp : Option Addr} {n c kn kc fv : Nat} {r : List Val} {ks : List Key} (h : Vs w p n c r) (hk : Ks w kp kn kc ks) (hf : w.cell? ⟨fv, 0, none⟩ = some (.slice kp kn kc)) :
    Calls Try.prog 39 #[.slice p n c, .pointer (some ⟨fv, 0, none⟩)] w fun e w' => e = .returned (.bool (!(rightR r ks))) ∧ Ext w w' := by
  apply oall1_vc
  unfold oall1_T
  refine ⟨_, _, _, hf, (oright_ok w h hk).mono ?_⟩
  rintro e w5 ⟨rfl, e5⟩
  exact ⟨_, rfl, rfl, e5⟩
theorem oall_ok (w : World) {p kp : Option Addr} {n c kn kc : Nat} {hs : List Sl} {L : List (List Val)} {ks : List Key} (h : Rws w p n c hs L) (hk : Ks w kp kn kc ks) :
    Calls Try.prog 25 #[.slice p n c, .slice kp kn kc] w fun e w' => e = .returned (.bool (allR ks L)) ∧ Ext w w' := by
  apply oall_vc
  unfold oall_T
  intro b1 w2 h1
  have hc2 : w2.cell? ⟨b1, 0, none⟩ = some (.slice kp kn kc) := (Blk.new h1).one
  apply crow_vc
  unfold crow_T
  apply irow_vc
  unfold irow_T
  have hl := h.len
  have hm : n ≤ 9223372036854775807 := h.le
  refine ⟨fun i w' => ∃ k : Nat, i = (k : Int) ∧ k ≤ n ∧ allR ks (L.drop k) = allR ks L ∧ Ext w2 w', fun i _ => n - i.toNat, ⟨0, rfl, Nat.zero_le _, by simp, .rfl⟩, ?_⟩
  rintro i w4 ⟨k, rfl, hkn, ha, hx⟩
  have hx' := h1.ext.trans hx
  refine ⟨fun hlt => ?_, fun hge => ⟨_, rfl, _, rfl, ?_, hx'⟩⟩
  · have g : L[k]? = some (L[k]'(by omega)) := List.getElem?_eq_getElem _
    have hd := all_drop (f := fun r => rightR r ks) g
    generalize L[k]'(by omega) = r at g hd
    obtain ⟨x, hx1, hv, b, o, hp, c0⟩ := (h.ext hx').get g
    simp only [Int.toNat_natCast]
    refine ⟨b, o, hp, by omega, by omega, _, _, _, c0, (oall1_ok w4 hv (hk.ext hx') (cell_ext hc2 hx)).mono ?_⟩
    rintro e w13 ⟨rfl, e13⟩
    have hx13 := hx'.trans e13
    refine ⟨_, rfl, fun hb => ⟨_, rfl, _, rfl, ?_, hx13⟩, fun hb => ?_⟩
    · have hb' : rightR r ks = false := by simpa using hb
      have : allR ks L = false := by rw [← ha]; unfold allR; rw [hd, hb']; rfl
      rw [this, decide_eq_true (by omega : (0 : Int) ≤ (k : Int))]; rfl
    · have hb' : rightR r ks = true := by simpa using hb
      rw [i64_next (by omega)]
      exact ⟨⟨k + 1, rfl, by omega, by rw [← ha]; unfold allR; rw [hd, hb']; rfl, hx.trans e13⟩, by simp only [Int.toNat_natCast]; omega⟩
  · have : allR ks L = true := by rw [← ha, List.drop_eq_nil_of_le (by omega)]; rfl
    rw [this]; rfl

/-- What Sort answers. -/
def SortRes (ks : List Key) (L : List (List Val)) (w : World) (e : Ending) (w' : World) : Prop := Ext w w' ∧
  ((allR ks L = true ∧ ∃ p c hs R, e = .returned (.tuple #[.slice p L.length c, .int .i64 0]) ∧ Stab (standsF ks) L R ∧ Rws w' p L.length c hs R) ∨ (allR ks L = false ∧ e = .returned (.tuple #[.slice none 0 0, .int .i64 2])))

theorem osort1_ok (w : World) {ap bp kp : Option Addr} {an ac bn bc kn kc fv : Nat} {a b : List Val} {ks : List Key} (ha : Vs w ap an ac a) (hb : Vs w bp bn bc b) (hk : Ks w kp kn kc ks) (ra : rightR a ks = true) (rb : rightR b ks = true)
    (hf : w.cell? ⟨fv, 0, none⟩ = some (.slice kp kn kc)) :
    Calls Try.prog 28 #[.slice ap an ac, .slice bp bn bc, .pointer (some ⟨fv, 0, none⟩)] w fun e w' => e = .returned (.int .i64 (standsF ks a b)) ∧ Ext w w' := by
  apply osort1_vc
  unfold osort1_T
  refine ⟨_, _, _, hf, (ostands_ok w ha hb hk ra rb).mono ?_⟩
  rintro e w5 ⟨rfl, e5⟩
  exact ⟨_, rfl, rfl, e5⟩

theorem osort_ok (w : World) {p kp : Option Addr} {n c kn kc : Nat} {hs : List Sl} {L : List (List Val)} {ks : List Key} (h : Rws w p n c hs L) (hk : Ks w kp kn kc ks) (hsz : Sz L) (hn : n ≤ 1099511627776) :
    Calls Try.prog 12 #[.slice p n c, .slice kp kn kc] w (SortRes ks L w) := by
  apply osort_vc
  unfold osort_T
  intro b1 w2 h1
  have hc2 : w2.cell? ⟨b1, 0, none⟩ = some (.slice kp kn kc) := (Blk.new h1).one
  refine ⟨_, _, _, hc2, (oall_ok w2 (h.ext h1.ext) (hk.ext h1.ext)).mono ?_⟩
  rintro e w8 ⟨rfl, e8⟩
  have hx8 := h1.ext.trans e8
  refine ⟨_, rfl, fun hno => ⟨hx8, .inr ⟨hno, rfl⟩⟩, fun hyes => (copied_ok w8 (h.ext hx8) hsz hn).mono ?_⟩
  rintro e w13 ⟨p', c', cl, rfl, hcl, H, hrows⟩
  have hlL := h.len
  refine ⟨_, _, _, rfl, ?_⟩
  have hout : (cl ++ [(⟨23, 1, p', n, c', (cl.reverse.map Row.sl).map Sl.v⟩ : Row)])[cl.length]? = some ⟨23, 1, p', n, c', (cl.reverse.map Row.sl).map Sl.v⟩ := by simp
  have hm := H.row cl.length hout
  obtain ⟨val, hval⟩ := vals_of w13
  -- each head
  have hD : ∀ x ∈ cl.reverse.map Row.sl, ∃ r ∈ L, Vs w13 x.p x.n x.c r ∧ ∀ b o, x.p = some ⟨b, o, none⟩ → ∀ b', p' = some ⟨b', 0, none⟩ → b ≠ b' := by
    intro x hx
    obtain ⟨i, hi⟩ := List.mem_iff_getElem?.1 hx
    rw [List.getElem?_map] at hi
    cases hmi : cl.reverse[i]? with
    | none => rw [hmi] at hi; cases hi
    | some m =>
      rw [hmi] at hi
      cases hi
      have hilt := (List.getElem?_eq_some_iff.1 hmi).1
      rw [List.length_reverse, hcl] at hilt
      have gr : L[i]? = some (L[i]'(by omega)) := List.getElem?_eq_getElem _
      obtain ⟨h1', h2', h3'⟩ := hrows i m _ hmi gr
      have hmem : m ∈ cl := List.mem_reverse.1 (List.mem_of_getElem? hmi)
      obtain ⟨j, hj⟩ := List.mem_iff_getElem?.1 hmem
      have hjlt := (List.getElem?_eq_some_iff.1 hj).1
      have hj' : (cl ++ [(⟨23, 1, p', n, c', (cl.reverse.map Row.sl).map Sl.v⟩ : Row)])[j]? = some m := by rw [List.getElem?_append_left hjlt]; exact hj
      refine ⟨_, List.mem_of_getElem? gr, ?_, fun b o hb b' hb' => H.rows j cl.length m _ hj' hout (by omega) b o b' 0 hb hb'⟩
      have hmm := H.own j m hj'
      rw [h1', h2', h3'] at hmm
      exact hmm.ls Val.cs_length (by decide)
  have hL : (cl.reverse.map Row.sl).map val = L := by
    apply List.ext_getElem?
    intro i
    rw [List.getElem?_map, List.getElem?_map]
    rcases Nat.lt_or_ge i n with hi | hi
    · have gm : cl.reverse[i]? = some (cl.reverse[i]'(by simp; omega)) := List.getElem?_eq_getElem _
      generalize cl.reverse[i]'(by simp; omega) = m at gm
      have gr : L[i]? = some (L[i]'(by omega)) := List.getElem?_eq_getElem _
      rw [gm, gr]
      obtain ⟨h1', h2', h3'⟩ := hrows i m _ gm gr
      have hmem : m ∈ cl := List.mem_reverse.1 (List.mem_of_getElem? gm)
      obtain ⟨j, hj⟩ := List.mem_iff_getElem?.1 hmem
      have hjlt := (List.getElem?_eq_some_iff.1 hj).1
      have hj' : (cl ++ [(⟨23, 1, p', n, c', (cl.reverse.map Row.sl).map Sl.v⟩ : Row)])[j]? = some m := by rw [List.getElem?_append_left hjlt]; exact hj
      have hmm := H.own j m hj'
      rw [h1', h2', h3'] at hmm
      exact congrArg some (hval (Row.sl m) _ (hmm.ls Val.cs_length (by decide)))
    · rw [List.getElem?_eq_none (by simp; omega), List.getElem?_eq_none (by omega)]; rfl
  have hG : ∀ x ∈ cl.reverse.map Row.sl, Vs w13 x.p x.n x.c (val x) ∧ rightR (val x) ks = true ∧ ∀ b o, x.p = some ⟨b, o, none⟩ → ∀ b', p' = some ⟨b', 0, none⟩ → b ≠ b' := by
    intro x hx
    obtain ⟨r, hr, hv, hap⟩ := hD x hx
    have := hval x r hv
    rw [this]
    exact ⟨hv, allR_mem hyes hr, hap⟩
  have low : ∀ {W k}, Far p' w13 W → k < w8.heap.size → W.heap[k]? = w8.heap[k]? := by
    intro W k hF hk8
    rw [hF.keep (Nat.lt_of_lt_of_le hk8 H.ext.size) fun b hb => by have := (hm.ge b 0 hb).1; omega]
    exact H.ext.block k hk8
  have hSort : Sorting w13 p' n b1 (fun x y => standsF ks (val x) (val y)) (fun x => x ∈ cl.reverse.map Row.sl) := by
    refine ⟨(standsF_cmp ks).on val, fun W x y hF hx hy => ?_, hn⟩
    obtain ⟨vx, rx, ax⟩ := hG x hx
    obtain ⟨vy, ry, ay⟩ := hG y hy
    refine osort1_ok W (vx.kept fun b o hb hlt => hF.keep hlt fun b' hb' => ax b o hb b' hb') (vy.kept fun b o hb hlt => hF.keep hlt fun b' hb' => ay b o hb b' hb') ((hk.ext hx8).kept fun b o hb hlt => low hF hlt) rx ry ?_
    have hc8 := cell_ext hc2 e8
    exact cell_of hc8 (low hF (cell_lt hc8))
  have hSd : SdR w8.heap.size w13 p' n c' w13 (cl.reverse.map Row.sl) := ⟨hm, Far.rfl (by rcases hm.shape with ⟨h0, _⟩ | ⟨b, hb, _⟩; exact .inl h0; exact .inr ⟨b, hb⟩)⟩
  refine (sortstable_ok hSort w13 _ hSd fun x hx => hx).mono ?_
  rintro e w18 ⟨rfl, r, hst, hd⟩
  have hx18 : Ext w w18 := by
    have hx13 := hx8.trans H.ext
    rcases hd.far with ⟨_, e⟩ | ⟨b, hb, e⟩
    · exact hx13.trans e
    · have := (hm.ge b 0 hb).1
      exact hx13.below.but e (by have := hx8.size; omega) hx13.size
  refine ⟨rfl, hx18, .inl ⟨hyes, p', c', r, r.map val, by rw [hlL], ?_, ?_⟩⟩
  · have := Stab.map (standsF_cmp ks) val hst
    rwa [hL] at this
  · rw [hlL]
    refine Rws.mk' (val := val) ?_ rfl fun x hx => ?_
    · have := hd.own
      rw [heads_map] at this
      exact this.ls Sl.cs_length (by decide)
    · obtain ⟨vx, _, ax⟩ := hG x ((hst.mem ((standsF_cmp ks).on val)).1 hx)
      exact vx.kept fun b o hb hlt => hd.far.keep hlt fun b' hb' => ax b o hb b' hb'

theorem ofirst_ok (w : World) {p kp : Option Addr} {n c kn kc : Nat} {hs : List Sl} {L : List (List Val)} {ks : List Key} (h : Rws w p n c hs L) (hk : Ks w kp kn kc ks) (hsz : Sz L) (hn : n ≤ 1099511627776) (m : Int) :
    Calls Try.prog 15 #[.slice p n c, .int .i64 m, .slice kp kn kc] w fun e w' => Ext w w' ∧
      ((allR ks L = true ∧ -1 ≤ m ∧ ∃ p c hs R, e = .returned (.tuple #[.slice p (if 0 ≤ m ∧ m < (L.length : Int) then m.toNat else L.length) c, .int .i64 0]) ∧ Stab (standsF ks) L R ∧ Rws w' p (if 0 ≤ m ∧ m < (L.length : Int) then m.toNat else L.length) c hs (R.take (if 0 ≤ m ∧ m < (L.length : Int) then m.toNat else L.length))) ∨
       ((allR ks L = false ∨ m < -1) ∧ e = .returned (.tuple #[.slice none 0 0, .int .i64 2]))) := by
  apply ofirst_vc
  unfold ofirst_T
  refine (osort_ok w h hk hsz hn).mono ?_
  rintro e w2 ⟨hx, hh⟩
  rcases hh with ⟨hy, p', c', hs', R, rfl, hst, hR⟩ | ⟨hno, rfl⟩
  · refine ⟨_, _, _, _, rfl, fun hbad => ⟨hx, .inr ⟨by rcases hbad with h | h; exact absurd rfl h; exact .inr h, rfl⟩⟩, fun hok => ⟨fun hin => ?_, fun hout => ?_⟩⟩
    · have hcap := hR.heads.cap
      refine ⟨hin.1, Int.le_refl _, by omega, hx, .inl ⟨hy, hok.2, p', m.toNat, hs'.take m.toNat, R, ?_, hst, ?_⟩⟩
      · rw [if_pos hin]
      · rw [if_pos hin]
        have := hR.take (k := m.toNat) (by omega)
        exact ⟨⟨this.heads.len, ⟨Nat.le_refl _, by have := hR.heads.cap; omega⟩, this.heads.lies, fun e => by have := hR.heads.nil e; omega⟩, this.rows, this.len⟩
    · refine ⟨hx, .inl ⟨hy, hok.2, p', c', hs', R, ?_, hst, ?_⟩⟩
      · rw [if_neg (by omega)]
      · rw [if_neg (by omega), List.take_of_length_le (by have := hR.len; omega)]; exact hR
  · exact ⟨_, _, _, _, rfl, fun _ => ⟨hx, .inr ⟨.inl hno, rfl⟩⟩, fun hok => absurd hok.1 (by decide)⟩

theorem r15sort_ok (w : World) {p kp : Option Addr} {n c kn kc : Nat} {hs : List Sl} {L : List (List Val)} {ks : List Key} (h : Rws w p n c hs L) (hk : Ks w kp kn kc ks) (hn : n ≤ 1099511627776) :
    Calls Try.prog 14 #[.slice p n c, .slice kp kn kc] w (SortRes ks L w) := by
  apply r15sort_vc
  unfold r15sort_T
  obtain ⟨val, hval⟩ := vals_of w
  obtain ⟨hvL, hvx⟩ := h.vals hval
  have hlen := h.hlen
  have hlL := h.len
  have hcf := (standsF_cmp ks).on val
  have vof : ∀ {i : Nat} {x : Sl} {r : List Val}, hs[i]? = some x → L[i]? = some r → val x = r := by
    intro i x r hx hr
    rw [← hvL, List.getElem?_map, hx] at hr
    exact Option.some.inj hr
  refine ⟨fun p3 n4 c5 i W => ∃ (k : Nat) (hs' : List Sl), i = (k : Int) ∧ k ≤ n ∧ n4 = k ∧ hs'.length = k ∧ Hold w W [] [⟨23, 1, p3, k, c5, hs'.map Sl.v⟩] ∧ Stab (fun x y => standsF ks (val x) (val y)) (hs.take k) hs' ∧ (∀ x ∈ hs.take k, rightR (val x) ks = true),
    fun _ _ _ i _ => n - i.toNat, ⟨0, [], rfl, Nat.zero_le _, rfl, rfl, (Hold.start .rfl).nilRow _ _, ⟨by simp [Vc.Ord], by simpa using SameF.rfl⟩, by simp⟩, ?_⟩
  rintro p3 n4 c5 i W ⟨k, hs', rfl, hkn, rfl, hl', H, hst, hri⟩
  refine ⟨fun hlt => ?_, fun hge => ?_⟩
  · have g : L[n4]? = some (L[n4]'(by omega)) := List.getElem?_eq_getElem _
    generalize L[n4]'(by omega) = r at g
    obtain ⟨x, hx, hv, b, o, hp, c0⟩ := (h.ext H.ext).get g
    have evx : val x = r := vof hx g
    simp only [Int.toNat_natCast]
    refine ⟨b, o, hp, by omega, by omega, _, _, _, c0, (r15right_ok W hv (hk.ext H.ext)).mono ?_⟩
    rintro e w16 ⟨rfl, e16⟩
    have H16 := H.step e16
    refine ⟨_, rfl, fun hno => ⟨H16.ext, .inr ⟨?_, rfl⟩⟩, fun hyes => ?_⟩
    · unfold allR
      rw [List.all_eq_false]
      exact ⟨r, List.mem_of_getElem? g, by rw [hno]; decide⟩
    have hmemT : ∀ {y}, y ∈ hs' → y ∈ hs.take n4 := fun hy => (hst.mem hcf).1 hy
    refine ⟨fun a W => ∃ j : Nat, a = (j : Int) ∧ j ≤ n4 ∧ Hold w W [] [⟨23, 1, p3, n4, c5, hs'.map Sl.v⟩] ∧ (∀ y ∈ hs'.drop j, standsF ks (val x) (val y) < 0) ∧ ∀ y, (hs'.take j).getLast? = some y → ¬ standsF ks (val x) (val y) < 0, ?_, ?_⟩
    · refine ⟨fun a W => ∃ j : Nat, a = (j : Int) ∧ j ≤ n4 ∧ Hold w W [] [⟨23, 1, p3, n4, c5, hs'.map Sl.v⟩] ∧ (∀ y ∈ hs'.drop j, standsF ks (val x) (val y) < 0), fun a _ => a.toNat, ⟨n4, rfl, Nat.le_refl _, H16, by rw [List.drop_eq_nil_of_le (by omega)]; simp⟩, ?_⟩
      rintro a w24 ⟨j, rfl, hj, H24, hdr⟩ w26 h26
      have H26 := H24.step h26.ext
      refine ⟨fun hpos => ?_, fun hzero => ⟨j, rfl, hj, H26, hdr, ?_⟩⟩
      · obtain ⟨j', rfl⟩ : ∃ j', j = j' + 1 := ⟨j - 1, by omega⟩
        rw [i64_prev (by omega) (by omega), Nat.add_sub_cancel]
        simp only [Int.toNat_natCast]
        have gy : hs'[j']? = some (hs'[j']'(by omega)) := List.getElem?_eq_getElem _
        generalize hs'[j']'(by omega) = y at gy
        obtain ⟨b', o', hp', hcy⟩ := (H26.row 0 rfl).at.get (i := j') (by rw [List.length_map]; omega)
        have hcy' : w26.cell? ⟨b', o' + j', none⟩ = some (.slice y.p y.n y.c) := by
          rw [hcy]
          simp only [List.getElem_map]
          rw [(List.getElem?_eq_some_iff.1 gy).2]; rfl
        have hyT := hmemT (List.mem_of_getElem? gy)
        have hyv := hvx y (List.mem_of_mem_take hyT)
        obtain ⟨x2, hx2, hv2, b2, o2, hp2, c02⟩ := (h.ext H26.ext).get g
        rw [hx] at hx2; cases hx2
        refine ⟨b', o', hp', by omega, by omega, _, _, _, hcy', b2, o2, hp2, by omega, by omega, _, _, _, c02, (r15stands_ok w26 (hyv.ext H26.ext) hv2 (hk.ext H26.ext) (hri y hyT) hyes).mono ?_⟩
        rintro e w40 ⟨rfl, e40⟩
        have H40 := H26.step e40
        have hanti := (standsF_cmp ks).anti (val y) (val x)
        rw [← evx]
        refine ⟨_, rfl, fun hgt => ⟨⟨j', rfl, by omega, H40, ?_⟩, by omega⟩, fun hle => ⟨j' + 1, rfl, hj, H40, hdr, ?_⟩⟩
        · intro z hz
          rw [List.drop_eq_getElem_cons (by omega)] at hz
          rcases List.mem_cons.1 hz with rfl | hz
          · rw [(List.getElem?_eq_some_iff.1 gy).2]; omega
          · exact hdr z hz
        · intro z hz
          rw [take_snoc gy] at hz
          simp at hz
          subst hz
          omega
      · intro y hy
        have : j = 0 := by omega
        subst this
        simp at hy
    · rintro a w46 ⟨j, rfl, hj, H46, hdr, hlast⟩ w48 h48
      have H48 := H46.step h48.ext
      have hcap := (H48.row 0 rfl).cap
      rw [i64_next (by omega)]
      refine ⟨by omega, by omega, Int.le_refl 0, by omega, by omega, by omega, fun b50 w51 h50 => ?_⟩
      rw [Int.toNat_natCast] at h50 ⊢
      have H51 := H48.madeRow (s := 1) (cap := n4 + 1) h50 (by simp [maxLen]; omega) (by rw [size_madeCells]; simp)
      have hm1 := H51.row 1 rfl
      have hl1 : (hs'.map Sl.v).length = n4 := by rw [List.length_map, hl']
      obtain ⟨p53, c55, w56, hrun1, H56⟩ := H51.append (ty := 31) (P := Try.prog) (q := p3) (m := j) (d' := c5) (news := (hs'.map Sl.v).take j) 0 rfl undRows tyRow rfl (by decide) (hm1.at.take j) (by rw [List.length_take]; omega) (fun e => by have := hm1.isNil e; omega)
        (fun u hu => by obtain ⟨y, _, rfl⟩ := List.mem_map.1 (List.mem_of_mem_take hu); rfl) (by show ((0 + j) + (0 + j) / 4 + 192) * 24 ≤ 281474976710656; omega) (by simp [maxLen]; omega)
      rw [Nat.zero_add] at hrun1
      simp only [Int.toNat_natCast]
      obtain ⟨x2, hx2, hv2, b2, o2, hp2, c02⟩ := (h.ext H56.ext).get g
      rw [hx] at hx2; cases hx2
      refine ⟨p53, j, c55, w56, hrun1, b2, o2, hp2, by omega, by omega, _, _, _, c02, fun b62 w63 h62 => ?_⟩
      have H63 := H56.step h62.ext
      obtain ⟨p65, c67, w68, hrun2, H68⟩ := H63.append (ty := 31) (P := Try.prog) (q := some ⟨b62, 0, none⟩) (m := 1) (d' := 1) (news := [.slice x.p x.n x.c]) 0 rfl undRows tyRow rfl (by decide) h62.at rfl (fun e => by cases e)
        (by intro u hu; simp at hu; subst hu; rfl) (by show ((0 + j + 1) + (0 + j + 1) / 4 + 192) * 24 ≤ 281474976710656; omega) (by simp [maxLen]; omega)
      rw [Nat.zero_add] at hrun2
      refine ⟨p65, j + 1, c67, w68, hrun2, by omega, by omega, ?_⟩
      have hm3 := H68.row 1 rfl
      have hsl := hm3.at.slice j n4 c5 1 (by omega)
      rw [Nat.mul_one, Nat.mul_one, List.take_of_length_le (by omega)] at hsl
      obtain ⟨p69, c71, w72, hrun3, H72⟩ := H68.append (ty := 31) (P := Try.prog) (q := slBase p3 j c5 1) (m := n4 - j) (d' := c5 - j) (news := (hs'.map Sl.v).drop j) 0 rfl undRows tyRow rfl (by decide) hsl (by rw [List.length_drop]; omega) (fun e => by have := hm3.isNil (slBase_none e); omega)
        (fun u hu => by obtain ⟨y, _, rfl⟩ := List.mem_map.1 (List.mem_of_mem_drop hu); rfl) (by show ((0 + j + 1 + (n4 - j)) + (0 + j + 1 + (n4 - j)) / 4 + 192) * 24 ≤ 281474976710656; omega) (by simp [maxLen]; omega)
      rw [show 0 + j + 1 = j + 1 by omega] at hrun3 H72
      refine ⟨p69, j + 1 + (n4 - j), c71, w72, hrun3, ?_⟩
      have gx : hs[n4]? = some x := hx
      have e1 : j + 1 + (n4 - j) = n4 + 1 := by omega
      rw [e1] at H72 ⊢
      have lt := hst.length hcf
      refine ⟨⟨n4 + 1, hs'.take j ++ [x] ++ hs'.drop j, rfl, by omega, rfl, by simp only [List.length_append, List.length_take, List.length_drop, List.length_cons, List.length_nil]; omega, ?_, ?_, ?_⟩, by omega⟩
      · have := H72.oneRow
        have e2 : [] ++ (hs'.map Sl.v).take j ++ [Value.slice x.p x.n x.c] ++ (hs'.map Sl.v).drop j = (hs'.take j ++ [x] ++ hs'.drop j).map Sl.v := by simp [Sl.v]
        rw [e2] at this
        exact this
      · rw [take_snoc gx]
        exact Stab.insert hcf (by rw [List.take_append_drop]; exact hst) hlast hdr
      · intro y hy
        rw [take_snoc gx] at hy
        rcases List.mem_append.1 hy with hy | hy
        · exact hri y hy
        · simp at hy; subst hy; rw [evx]; exact hyes
  · have : n4 = n := by omega
    subst this
    rw [List.take_of_length_le (by omega)] at hst hri
    refine ⟨H.ext, .inl ⟨?_, p3, c5, hs', hs'.map val, by rw [hlL], ?_, ?_⟩⟩
    · unfold allR
      rw [← hvL, List.all_eq_true]
      intro r hr
      obtain ⟨x, hx, rfl⟩ := List.mem_map.1 hr
      exact hri x hx
    · have := Stab.map (standsF_cmp ks) val hst
      rwa [hvL] at this
    · rw [hlL]
      refine Rws.mk' (val := val) ?_ rfl fun x hx => (hvx x ((hst.mem hcf).1 hx)).ext H.ext
      have := H.row 0 rfl
      rw [heads_map] at this
      exact this.ls Sl.cs_length (by decide)

theorem r15first_ok (w : World) {p kp : Option Addr} {n c kn kc : Nat} {hs : List Sl} {L : List (List Val)} {ks : List Key} (h : Rws w p n c hs L) (hk : Ks w kp kn kc ks) (hn : n ≤ 1099511627776) (m : Int) :
    Calls Try.prog 16 #[.slice p n c, .int .i64 m, .slice kp kn kc] w fun e w' => Ext w w' ∧
      ((allR ks L = true ∧ -1 ≤ m ∧ ∃ p c hs R, e = .returned (.tuple #[.slice p (if 0 ≤ m ∧ m < (L.length : Int) then m.toNat else L.length) c, .int .i64 0]) ∧ Stab (standsF ks) L R ∧ Rws w' p (if 0 ≤ m ∧ m < (L.length : Int) then m.toNat else L.length) c hs (R.take (if 0 ≤ m ∧ m < (L.length : Int) then m.toNat else L.length))) ∨
       ((allR ks L = false ∨ m < -1) ∧ e = .returned (.tuple #[.slice none 0 0, .int .i64 2]))) := by
  apply r15first_vc
  unfold r15first_T
  refine (r15sort_ok w h hk hn).mono ?_
  rintro e w2 ⟨hx, hh⟩
  rcases hh with ⟨hy, p', c', hs', R, rfl, hst, hR⟩ | ⟨hno, rfl⟩
  · refine ⟨_, _, _, _, rfl, fun hbad => ⟨hx, .inr ⟨by rcases hbad with h | h; exact absurd rfl h; exact .inr h, rfl⟩⟩, fun hok => ⟨fun hin => ?_, fun hout => ?_⟩⟩
    · have hcap := hR.heads.cap
      refine ⟨hin.1, by omega, hx, .inl ⟨hy, hok.2, p', c', hs'.take m.toNat, R, ?_, hst, ?_⟩⟩
      · rw [if_pos hin]
      · rw [if_pos hin]
        exact hR.take (k := m.toNat) (by omega)
    · refine ⟨hx, .inl ⟨hy, hok.2, p', c', hs', R, ?_, hst, ?_⟩⟩
      · rw [if_neg (by omega)]
      · rw [if_neg (by omega), List.take_of_length_le (by have := hR.len; omega)]; exact hR
  · exact ⟨_, _, _, _, rfl, fun _ => ⟨hx, .inr ⟨.inl hno, rfl⟩⟩, fun hok => absurd hok.1 (by decide)⟩
end Go.Proofs.Ytgcjhhlokncbfaa
