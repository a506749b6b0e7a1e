/-
  My own work: tranterref12.Tours: its contract (draft).
-/
import Derived.Test.YthilfibgpobcjaaTourU
import Derived.Deep.DrawnRows
namespace Go.Proofs.Ythilfibgpobcjaa
open Go.RowKit
set_option linter.unusedVariables false
attribute [local go_sem ↓] Go.wp_at_zero Go.wp_at_succ

def Bools (w : World) (v : Value) (bs : List Bool) : Prop :=
  ∃ (a : Option Addr) (n c : Nat), v = .slice a n c ∧ bs.length = n ∧ ∀ i, i < n → ∃ b o, a = some ⟨b, o, none⟩ ∧ w.cell? ⟨b, o + i, none⟩ = some (.bool (bs.getD i false))
theorem Bools.below {w w' : World} {v : Value} {bs : List Bool} (h : Bools w v bs) (hb : Below w.heap.size w w') : Bools w' v bs := by
  obtain ⟨a, n, c, rfl, hn, hc⟩ := h
  refine ⟨a, n, c, rfl, hn, fun i hi => ?_⟩
  obtain ⟨b, o, ha, g0⟩ := hc i hi
  exact ⟨b, o, ha, cell_below hb g0⟩
def ToursOut (cm : Nat) (w : World) (e : Ending) (w' : World) : Prop :=
  ∃ tv G T rvs, e = .returned (.agg #[tv]) ∧ GoodStops cm G ∧ Cut T G ∧ OwnT 81 w' w.heap.size tv T rvs ∧ Below w.heap.size w w'

/-- Ahead of 'd.Tours[k].Stops = append(..)': there is a tour to append to. -/
def TourSt (G : List (Int × Int)) (gv : Value) (B0 k B gd : Nat) (wg wx : World) : Prop :=
  ∃ (tv : Value) (T : List (List (Int × Int))) (rvs : List Value), wx.cell? ⟨gd, 0, none⟩ = some tv ∧ wx.frozen? ⟨gd, 0, none⟩ = false ∧ 0 < T.length ∧ T.length ≤ k + 1 ∧ OwnT 81 wx B tv T rvs ∧ Below gd wg wx ∧ wg.heap.size ≤ wx.heap.size ∧
    OwnP2 81 wx B0 gv G ∧ ∀ p, Cut (T.set (T.length - 1) (nthT T (T.length - 1) ++ [p])) (G.take k ++ [p])
theorem owns_free {w : World} {B : Nat} {E : TypeId} {sz n g c : Nat} {xs : List Value} (h : w.ownsRow B E sz (.slice (some ⟨g, 0, none⟩) n c) n xs) (j : Nat) : w.frozen? ⟨g, j, none⟩ = false := by
  rcases h.2 with ⟨h0, _⟩ | ⟨g', cap, cur, hv, hb, hg, _⟩
  · simp at h0
  · simp only [Value.slice.injEq, Option.some.injEq, Addr.mk.injEq, and_true] at hv
    obtain ⟨rfl, _⟩ := hv
    simp [World.frozen?, hg]
theorem grown_drew {a b : World} {r : Option Nat} (h : a.grownBy b r) : a.grownBy b.drew r := ⟨h.os, h.tape, h.output, h.size, h.block⟩
theorem set_last (T0 : List (List (Int × Int))) (r q : List (Int × Int)) : (T0 ++ [r]).set ((T0 ++ [r]).length - 1) q = T0 ++ [q] := by
  simp
theorem tourSt_old {T : List (List (Int × Int))} {xs : List (Int × Int)} (h : Cut T xs) (h0 : 0 < T.length) (p : Int × Int) : Cut (T.set (T.length - 1) (nthT T (T.length - 1) ++ [p])) (xs ++ [p]) := by
  have e := cut_last h0
  generalize nthT T (T.length - 1) = r at *
  generalize T.take (T.length - 1) = T0 at *
  subst e
  rw [set_last]
  exact h.more p
theorem tourSt_new {T : List (List (Int × Int))} {xs : List (Int × Int)} (h : Cut T xs) (p : Int × Int) : Cut ((T ++ [[]]).set ((T ++ [[]]).length - 1) (nthT (T ++ [[]]) ((T ++ [[]]).length - 1) ++ [p])) (xs ++ [p]) := by
  rw [set_last]
  have e : nthT (T ++ [[]]) ((T ++ [[]]).length - 1) = [] := by simp [nthT]
  rw [e]
  exact h.new p

/-- The world behind the store of the k-th tour. -/
theorem tour_step {wg w5 w5' w6 : World} {B0 gd tg m tcap g6 cap6 k n c : Nat} {gad : Option Addr} {rv : Value} {T1 : List (List (Int × Int))} {rvs1 : List Value} {r G : List (Int × Int)} {P Q : Int}
    (hG : OwnP2 81 wg B0 (.slice gad n c) G) (hT : OwnT 81 w5 wg.heap.size (.slice (some ⟨tg, 0, none⟩) (m + 1) tcap) T1 rvs1) (hTn : T1.length = m + 1) (hrv : rv = rvs1.getD m undef) (hr : r = nthT T1 m) (hrow : OwnP2 81 w5 wg.heap.size rv r)
    (hb : Below gd wg w5) (hG1 : OwnP2 81 w5 B0 (.slice gad n c) G) (hcut : Cut (T1.set (T1.length - 1) (nthT T1 (T1.length - 1) ++ [(P, Q)])) (G.take k ++ [(P, Q)])) (hst : G.take (k + 1) = G.take k ++ [(P, Q)]) (hgw : gd ≠ tg) (hgB : gd < wg.heap.size) (h37 : B0 ≤ wg.heap.size)
    (hs : wg.heap.size ≤ w5.heap.size) (k7 : w5.cell? ⟨gd, 0, none⟩ = some (.slice (some ⟨tg, 0, none⟩) (m + 1) tcap)) (l7 : w5.frozen? ⟨gd, 0, none⟩ = false) (hd : w5.grownBy w5' rv.ownBlock) (hds : w5.heap.size ≤ w5'.heap.size)
    (hrow6 : w6.ownsRow wg.heap.size 81 2 (.slice (some ⟨g6, 0, none⟩) (r.length + 1) cap6) (r.length + 1) (flatP r ++ [.int .i64 P, .int .i64 Q])) (hg6 : w5'.grownBy w6 rv.ownBlock) (hat6 : rv.ownBlock = some g6 ∨ g6 = w5'.heap.size) :
    ∃ (tv : Value) (T : List (List (Int × Int))) (rvs : List Value), (w6.setCell ⟨tg, m, none⟩ (.slice (some ⟨g6, 0, none⟩) (r.length + 1) cap6)).cell? ⟨gd, 0, none⟩ = some tv ∧ (w6.setCell ⟨tg, m, none⟩ (.slice (some ⟨g6, 0, none⟩) (r.length + 1) cap6)).frozen? ⟨gd, 0, none⟩ = false ∧
      OwnT 81 (w6.setCell ⟨tg, m, none⟩ (.slice (some ⟨g6, 0, none⟩) (r.length + 1) cap6)) wg.heap.size tv T rvs ∧ Cut T (G.take (k + 1)) ∧ OwnP2 81 (w6.setCell ⟨tg, m, none⟩ (.slice (some ⟨g6, 0, none⟩) (r.length + 1) cap6)) B0 (.slice gad n c) G ∧
      Below gd wg (w6.setCell ⟨tg, m, none⟩ (.slice (some ⟨g6, 0, none⟩) (r.length + 1) cap6)) ∧ wg.heap.size ≤ (w6.setCell ⟨tg, m, none⟩ (.slice (some ⟨g6, 0, none⟩) (r.length + 1) cap6)).heap.size := by
  have hg56 : w5.grownBy w6 rv.ownBlock := grownBy_trans hd hg6
  have htl : wg.heap.size ≤ tg := (World.ownsRow.lt hT.outer tg rfl).1
  have hne7 : some gd ≠ rv.ownBlock := fun e => by have := (hrow.lt _ e.symm).1; omega
  have lt7 : gd < w5.heap.size := by omega
  have hP6 : OwnP2 81 w6 wg.heap.size (.slice (some ⟨g6, 0, none⟩) (r.length + 1) cap6) (r ++ [(P, Q)]) := by simpa [OwnP2, flatP_snoc] using hrow6
  have hmv := hT.moved hTn.symm (by rw [hTn]; exact Nat.lt_succ_self m) hP6 (by rw [← hrv]; exact hg56) (by rw [← hrv]; exact hat6.imp id (fun e => by rw [e]; exact hds))
  have hgS := grownBy_setCell w6 ⟨tg, m, none⟩ (.slice (some ⟨g6, 0, none⟩) (r.length + 1) cap6)
  refine ⟨_, _, _, (World.cell?_setCell_other _ _ _ _ (fun e => ?_)).trans (hg56.cell k7 hne7), (World.frozen?_setCell _ _ _ _).trans (frozen_grown hg56 lt7 hne7 l7), hmv, ?_, ?_, (hb.grown hg56 (by omega) (fun q hq => by have := (hrow.lt q hq).1; omega)).setCell (p := ⟨tg, m, none⟩) (show gd ≤ tg by omega) _, ?_⟩
  · first | exact hgw (congrArg Addr.block e) | exact hgw (congrArg Addr.block e).symm
  · rw [hst]
    rw [hTn, show m + 1 - 1 = m by omega, ← hr] at hcut
    exact hcut
  · refine (hG1.kept hg56 ?_).kept hgS ?_
    · cases hv : (Value.slice gad n c).ownBlock with
      | none => exact .inl rfl
      | some q => exact .inr (fun e => by have h1 := (hG.lt q hv).2; have h2 := (hrow.lt q e.symm).1; omega)
    · cases hv : (Value.slice gad n c).ownBlock with
      | none => exact .inl rfl
      | some q => exact .inr (fun e => by have h1 := (hG.lt q hv).2; simp only [Option.some.injEq] at e; omega)
  · have := hg56.size
    simp [World.setCell]
    omega

set_option maxRecDepth 100000 in
set_option maxHeartbeats 6400000 in
theorem tours_is (i0 i1 i2 i3 : Int) (cv dv lv bv : Value) (L : List Cu) (l : List (Int × Int)) (bs : List Bool) (cm : Nat) (w : World) (hC : Custs w cv L) (hl : Pairs w lv l) (hb : Bools w bv bs) (hcm : L.length = cm) (hcm2 : cm ≤ 4096) (hlm : l.length ≤ 9223372036854775807) :
    Calls Try.prog 16 #[.agg #[.int .i64 i0, .int .i64 i1, .int .i64 i2, .int .i64 i3, cv, dv], lv, bv] w (ToursOut cm w) := by
  obtain ⟨w1, ew, hb1, hsz1, hx⟩ := box_inst w (.int .i64 i0) (.int .i64 i1) (.int .i64 i2) (.int .i64 i3) cv dv
  obtain ⟨w2, ew2⟩ : ∃ w2, w1.alloc (.cells #[.slice none 0 0] 36) = w2 := ⟨_, rfl⟩
  obtain ⟨w3, ew3⟩ : ∃ w3, w2.alloc (.cells #[.slice none 0 0] 36) = w3 := ⟨_, rfl⟩
  have hb2 : Below w1.heap.size w1 w2 := by rw [← ew2]; exact belAlloc _ _
  have hb3 : Below w2.heap.size w2 w3 := by rw [← ew3]; exact belAlloc _ _
  have hs2 : w2.heap.size = w.heap.size + 1 + 1 := by rw [← ew2]; simp; omega
  have hs3 : w3.heap.size = w.heap.size + 1 + 1 + 1 := by rw [← ew3]; simp; omega
  have c6 : w3.cell? ⟨w.heap.size + 1, 0, none⟩ = some (.slice none 0 0) := cell_below hb3 (by rw [← ew2, ← hsz1]; simp [go_sem])
  have f6 : w3.frozen? ⟨w.heap.size + 1, 0, none⟩ = false := frozen_below hb3 (by rw [hs2]; omega) (by rw [← ew2, ← hsz1]; simp [go_sem])
  have f7 : w3.frozen? ⟨w.heap.size + 1 + 1, 0, none⟩ = false := by rw [← ew3, ← hs2]; simp [go_sem]
  have c7 : w3.cell? ⟨w.heap.size + 1 + 1, 0, none⟩ = some (.slice none 0 0) := by rw [← ew3, ← hs2]; simp [go_sem]
  have b13 := bel2 (bel2 hb1 hb2) hb3
  have Hgood := Lib.hid (goodStops_is i0 i1 i2 i3 cv dv lv L l cm w3 (hC.below b13) (hl.below b13) hcm hcm2 hlm)
  have hx := (hx.below hb2).below hb3
  obtain ⟨c0, c1, c2, c3, c4, c5⟩ := hx
  have Hew := Lib.hid ew
  have Hew2 := Lib.hid ew2
  have Hew3 := Lib.hid ew3
  have Hbs := Lib.hid hb
  have B13 := Lib.hid b13
  clear ew ew2 ew3 hC hl hb hb1 hb2 hb3 b13
  go_enter Try.func16, Try.ntmps16
  go_upto_region 1 with (fail)
  rw [Hew.out]
  go_upto_region 2 with (fail)
  rw [Hew2.out, Hew3.out]
  generalize eg : w.heap.size = g at *
  have Heg := Lib.hid eg
  have Hs3 := Lib.hid hs3
  clear eg hs2 hs3
  go_wp2_with fail
  refine Hgood.out.mono ?_
  rintro e wg ⟨v, G, rfl, hG, hgs, hbg⟩
  have hbig : g + 1 + 1 < w3.heap.size := by rw [Hs3.out]; omega
  have hsz : w3.heap.size ≤ wg.heap.size := hbg.size
  have c6g := cell_below hbg c6
  have c7g := cell_below hbg c7
  have f6g := frozen_below hbg (by omega) f6
  have f7g := frozen_below hbg (by omega) f7
  have Hgs := Lib.hid hgs
  have HG := Lib.hid hG
  have Hbg := Lib.hid hbg
  obtain ⟨a, n, c, rfl, hn, _, hc⟩ := hG.pairs.open
  have hn6 := hgs.six
  have Hc := Lib.hid hc
  have Hn := Lib.hid hn
  have hn6' : n ≤ 6 := by omega
  clear hgs hbg hc hn hn6
  generalize ev : Value.slice a n c = gv at *
  have Hev := Lib.hid ev
  have HB : g + 1 + 1 < wg.heap.size := by omega
  go_wp2_with fail
  go_loopw [9, 10] (fun i q wr => ∃ (k : Nat) (tv : Value) (T : List (List (Int × Int))) (rvs : List Value), i = .int .i64 k ∧ k ≤ n ∧ wr.cell? ⟨g + 1 + 1, 0, none⟩ = some tv ∧ wr.frozen? ⟨g + 1 + 1, 0, none⟩ = false ∧ OwnT 81 wr wg.heap.size tv T rvs ∧ Cut T (G.take k) ∧ OwnP2 81 wr w3.heap.size gv G ∧ Below (g + 1 + 1) wg wr ∧ wg.heap.size ≤ wr.heap.size) (fun i _ _ => n - (intOf i).toNat)
  case atStart => exact ⟨0, _, [], [], rfl, Nat.zero_le _, c7g, f7g, OwnT.nil _ _ _, Cut.nil, HG.out, Below.refl _ _, Nat.le_refl _⟩
  case round =>
    obtain ⟨k, tv, T, rvs, rfl, hk, d7, e7, hT, hcut, hGr, hbr, hszr⟩ := hrel
    have HT := Lib.hid hT
    have Hcut := Lib.hid hcut
    have HGr := Lib.hid hGr
    have Hbr := Lib.hid hbr
    have d6 := cell_lt hbr (by omega) c6g
    have e6 := frozen_lt hbr (by omega) f6g
    clear hT hcut hGr hbr
    by_cases hlt : k < n
    · have hbw : Below g w wr := (B13.out.mono (by omega)).trans ((Hbg.out.mono (by omega)).trans (Hbr.out.mono (by omega)))
      have hbs := Hbs.out.below (Heg.out.symm ▸ hbw)
      obtain ⟨ba, bn, bc, rfl, hbn, hbc⟩ := hbs
      have Hbc := Lib.hid hbc
      clear hbn hbc hbw
      obtain ⟨wo, rfl⟩ : ∃ wo : World, wo = wr := ⟨_, rfl⟩
      subst ev
      go_upto_region 6 with fail
      go_cut [33] (fun s33 wx => ∃ b : Bool, s33 = .bool b ∧ (k = 0 → b = true) ∧ wo = wx)
      case first =>
        by_cases hk0 : k = 0
        · have hk1 : ((k : Int) == 0) = true := by simp; omega
          clear hk0
          go_wp2_with fail
          go_meet
          exact ⟨true, rfl, fun _ => rfl, rfl⟩
        · have hk1 : ((k : Int) == 0) = false := by simp; omega
          have Hk0 := Lib.hid hk0
          clear hk0
          by_cases hkb : k < bn
          · obtain ⟨qb, qo, rfl, hq⟩ := Hbc.out k hkb
            have hkb' : (k : Int) < (bn : Int) := by omega
            have hki : (0 : Int) ≤ (k : Int) := by omega
            generalize bs.getD k false = cut at *
            go_wp2_with fail
            go_meet
            exact ⟨cut, rfl, fun h => absurd h Hk0.out, rfl⟩
          · have hkb' : decide ((k : Int) < (bn : Int)) = false := by simp; omega
            go_wp2_with fail
            go_meet
            exact ⟨false, rfl, fun h => absurd h Hk0.out, rfl⟩
      case rest =>
        obtain ⟨b, rfl, hb0, rfl⟩ := hcut
        go_upto_if 33 with fail
        go_cut [9] (fun s9 wx => s9 = .int .i64 k ∧ TourSt G (.slice a n c) w3.heap.size k wg.heap.size (g + 1 + 1) wg wx)
        case first =>
          cases b with
          | false =>
            have hT0 : 0 < T.length := by
              have hk0 : k ≠ 0 := fun h => by have := hb0 h; simp at this
              have hne : G.take k ≠ [] := by
                intro e
                have := congrArg List.length e
                rw [List.length_take, Hn.out, List.length_nil] at this
                omega
              rcases Nat.eq_zero_or_pos T.length with h0 | h0
              · exfalso
                apply hne
                rw [← Hcut.out.flat, List.length_eq_zero_iff.1 h0]; rfl
              · exact h0
            have hst : TourSt G (.slice a n c) w3.heap.size k wg.heap.size (g + 1 + 1) wg wo := ⟨tv, T, rvs, d7, e7, hT0, by have h1 := cut_len Hcut.out; have h2 := List.length_take_le k G; omega, HT.out, Hbr.out, hszr, HGr.out, tourSt_old Hcut.out hT0⟩
            have Hst := Lib.hid hst
            clear hst hT0 hb0
            go_wp2_with fail
            go_meet
            exact ⟨rfl, Hst.out⟩
          | true =>
            have hTl : T.length + 1 ≤ 1000000000000 := by have h1 := cut_len Hcut.out; have h2 := List.length_take_le k G; omega
            have HTl := Lib.hid hTl
            clear hTl hb0
            go_wp2_with (at_builtin; refine wpList_pushN rfl _ _ 34 40 (.agg #[.slice none 0 0]) 1 24 Try.underlying34 (by kernel_rfl) rfl (by decide) (by decide) rfl _ wg.heap.size tv T.length rvs [.slice none 0 0] wo.heap.size rfl rfl (Lies.new wo _ _) rfl (by intro u hu; simp at hu; subst hu; rfl) (World.ownsRow.alloc HT.out.outer _) HTl.out (by simp; omega) ?_)
            intro g1 cap1 w5 o5 g5 b5 at5 lo5 hi5
            have hg5 : wo.grownBy w5 tv.ownBlock := grownBy_trans (World.grownBy_alloc wo _ _) g5
            have hT5 := HT.out.pushed o5 hg5 (at5.imp id (fun e => by rw [e]; simp))
            have hne5 : some (g + 1 + 1) ≠ tv.ownBlock := fun e => by have := (World.ownsRow.lt HT.out.outer _ e.symm).1; omega
            have l7 : g + 1 + 1 < wo.heap.size := by omega
            have d75 := hg5.cell d7 hne5
            have e75 := frozen_grown hg5 l7 hne5 e7
            have HT5 := Lib.hid hT5
            have Hb5 : Hid (Below (g + 1 + 1) wg w5) := Lib.hid (Hbr.out.grown hg5 (by omega) (fun k hk => by have := (World.ownsRow.lt HT.out.outer k hk).1; omega))
            have hs5 : wo.heap.size ≤ w5.heap.size := hg5.size
            have HG5 : Hid (OwnP2 81 w5 w3.heap.size (.slice a n c) G) := Lib.hid (HGr.out.kept hg5 (by
              cases hv : (Value.slice a n c).ownBlock with
              | none => exact .inl rfl
              | some q => exact .inr (fun e => by have h1 := (hG.lt q hv).2; have h2 := (World.ownsRow.lt HT.out.outer q e.symm).1; omega)))
            have Hlen5 : Hid (T.length ≤ k) := Lib.hid (by have h1 := cut_len Hcut.out; have h2 := List.length_take_le k G; omega)
            clear o5 g5 b5 at5 hg5 hT5
            go_wp2_with fail
            go_meet
            have hgs7 := grownBy_setCell w5 ⟨g + 1 + 1, 0, none⟩ (.slice (some ⟨g1, 0, none⟩) (T.length + 1) cap1)
            exact ⟨rfl, _, T ++ [[]], rvs ++ [.slice none 0 0], World.cell?_setCell_same _ _ _ d75, (World.frozen?_setCell _ _ _ _).trans e75, by simp, by simp; exact Hlen5.out, by simpa using HT5.out.kept hgs7 (by simp only []; omega), Hb5.out.setCell (p := ⟨g + 1 + 1, 0, none⟩) (Nat.le_refl _) _, by simp [World.setCell]; omega, HG5.out.kept hgs7 (HG5.out.not (by simp only []; omega)), tourSt_new Hcut.out⟩
        case rest =>
          obtain ⟨rfl, hst⟩ := hcut
          obtain ⟨tv1, T1, rvs1, k7, l7, hp1, hlen1, hT1, hb1', hs1', hG1, hcut1⟩ := hst
          obtain ⟨w5, rfl⟩ : ∃ w5 : World, w5 = wc := ⟨_, rfl⟩
          obtain ⟨m, hTn⟩ : ∃ m, T1.length = m + 1 := ⟨T1.length - 1, by omega⟩
          obtain ⟨tg, tcap, rfl, htl⟩ : ∃ tg tcap, tv1 = .slice (some ⟨tg, 0, none⟩) (m + 1) tcap ∧ wg.heap.size ≤ tg := by
            rcases owns_form hT1.outer with ⟨_, h0⟩ | ⟨tg, tcap, h1, _, _, h2, _⟩
            · omega
            · exact ⟨tg, tcap, by rw [h1, hTn], h2⟩
          have hrow := hT1.row m (by omega)
          have hoff := hT1.off m (by omega) tg rfl
          have hcel : w5.cell? ⟨tg, m, none⟩ = some (rvs1.getD m undef) := by
            obtain ⟨g', hg', hc⟩ := owns_cell hT1.outer m (rvs1.getD m undef) (by rw [List.getD_eq_getElem?_getD, List.getElem?_eq_getElem (by rw [hT1.len]; omega)]; rfl)
            simp only [Value.ownBlock, Option.some.injEq] at hg'
            subst hg'
            exact hc
          have hfre : w5.frozen? ⟨tg, m, none⟩ = false := owns_free (n := m + 1) (by have := hT1.outer; rw [hTn] at this; exact this) m
          have htl2 : tg < w5.heap.size := (World.ownsRow.lt hT1.outer tg rfl).2
          obtain ⟨rv, hrv⟩ : ∃ rv, rv = rvs1.getD m undef := ⟨_, rfl⟩
          obtain ⟨r, hr⟩ : ∃ r, r = nthT T1 m := ⟨_, rfl⟩
          rw [← hrv] at hcel hrow hoff
          rw [← hr] at hrow
          have hrl : r.length ≤ 6 := by
            have h0 := hcut1 (0, 0)
            rw [hTn, show m + 1 - 1 = m by omega, ← hr] at h0
            have h2 := (cut_sub h0 (List.mem_set (by omega) _)).length_le
            simp at h2
            omega
          obtain ⟨qa, qn, qc, hgo, hqn, _, hgc⟩ := hG1.pairs.open
          simp only [Value.slice.injEq] at hgo
          obtain ⟨rfl, rfl, rfl⟩ := hgo
          obtain ⟨gb, go, rfl, f0, f1⟩ := hgc k hlt
          have Hst := Lib.hid (takeP_succ G k (by omega))
          have Hcut1 := Lib.hid (hcut1 (nthP G k))
          obtain ⟨⟨P, Q⟩, hPQ⟩ : ∃ p : Int × Int, p = nthP G k := ⟨_, rfl⟩
          rw [← hPQ] at f0 f1 Hst Hcut1
          have f0 : w5.cell? ⟨gb, go + k * 2, none⟩ = some (.int .i64 P) := f0
          have f1 : w5.cell? ⟨gb, go + k * 2 + 1, none⟩ = some (.int .i64 Q) := f1
          obtain ⟨ra, rn, rc, hrf⟩ : ∃ ra rn rc, rv = .slice ra rn rc := by
            rcases owns_form hrow with ⟨h, _⟩ | ⟨_, _, h, _⟩
            · exact ⟨_, _, _, h⟩
            · exact ⟨_, _, _, h⟩
          subst hrf
          have HT1 := Lib.hid hT1
          have HTn := Lib.hid hTn
          have Hrv := Lib.hid hrv
          have Hr := Lib.hid hr
          have Hrow := Lib.hid hrow
          have Hrl := Lib.hid hrl
          have Hb1 := Lib.hid hb1'
          have HG1 := Lib.hid hG1
          have hi0 : (0 : Int) ≤ (m : Int) := by omega
          have hi1 : (m : Int) < (m : Int) + 1 := by omega
          have hk0 : (0 : Int) ≤ (k : Int) := by omega
          have hk1 : (k : Int) < (n : Int) := by omega
          have hm1 : wrap64 (m : Int) = (m : Int) := wrap_id (by omega) (by omega)
          have hne : g + 1 + 1 ≠ tg := by omega
          have hne7 : some (g + 1 + 1) ≠ (Value.slice ra rn rc).ownBlock := fun e => by have := (hrow.lt _ e.symm).1; omega
          have lt7 : g + 1 + 1 < w5.heap.size := by omega
          have lt6 : g + 1 + 1 < wg.heap.size := by omega
          clear hT1 hTn hrv hr hrow hrl hb1' hG1 hcut1 hPQ hb0 hgc hqn
          go_upto_region 9 with fail
          go_region_law (first
            | (refine step_pushN (by rfl) (.tmp 52) (.tmp 57) 27 81 _ 2 16 Try.underlying27 info_stop rfl (by decide) (by decide) (by rfl) _ wg.heap.size (.slice ra rn rc) r.length (flatP r) [.int .i64 P, .int .i64 Q] w5.heap.size (by rfl) (by rfl) (by exact Lies.new w5 [.int .i64 P, .int .i64 Q] _) rfl (by intro u hu; simp at hu; rcases hu with rfl | rfl <;> rfl) (by exact World.ownsRow.alloc Hrow.out _) (by have := Hrl.out; omega) (by simp [World.drew]; omega) ?_; intro g6 cap6 w6 hrow6 hg6 hb6 hat6 hge6 hlt6; have s6 := hg6.cell (cell_below (belAlloc _ _) hcel) (fun e => hoff e.symm); have q6 := hg6.cell (cell_below (belAlloc _ _) k7) hne7; have s7 := frozen_grown hg6 (by simp; omega) (fun e => hoff e.symm) (frozen_below (belAlloc _ _) htl2 hfre)))
          all_goals
            have hnew := tour_step (hG := hG) (hT := HT1.out) (hTn := HTn.out) (hrv := Hrv.out) (hr := Hr.out) (hrow := Hrow.out) (hb := Hb1.out) (hG1 := HG1.out) (hcut := Hcut1.out) (hst := Hst.out) (hgw := hne) (hgB := lt6) (h37 := hsz) hs1' k7 l7 (grown_drew (World.grownBy_alloc _ _ _)) (by simp [World.drew]) hrow6 hg6 hat6
            have Hnew := Lib.hid hnew
            clear hnew s6 s7 q6 hrow6 hg6 hb6 hat6
            go_wp2_with fail
            go_roundw
            case rel => obtain ⟨tv2, T2, rvs2, z1, z2, z3, z4, z5, z6, z7⟩ := Hnew.out; exact ⟨k + 1, tv2, T2, rvs2, by go_num, by omega, z1, z2, z3, z4, z5, z6, z7⟩
            case measure => simp [intOf]; omega
    · have hkn : k = n := by omega
      subst hkn
      have Hall : Hid (G.take k = G) := Lib.hid (List.take_of_length_le (by rw [Hn.out]; exact Nat.le_refl _))
      subst ev
      have fin : ∀ wz, Below g wr wz → OwnT 81 wz wg.heap.size tv T rvs → Below w.heap.size w wz ∧ OwnT 81 wz w.heap.size tv T rvs := fun wz h1 h2 =>
        ⟨by rw [Heg.out]; exact ((B13.out.mono (by omega)).trans (Hbg.out.mono (by omega))).trans ((Hbr.out.mono (by omega)).trans h1), h2.mono (by rw [Heg.out]; omega)⟩
      have Hfin := Lib.hid fin
      clear fin
      obtain ⟨ta, tn, tc, rfl⟩ : ∃ ta tn tc, tv = .slice ta tn tc := by
        rcases owns_form HT.out.outer with ⟨rfl, _⟩ | ⟨_, _, rfl, _⟩
        · exact ⟨_, _, _, rfl⟩
        · exact ⟨_, _, _, rfl⟩
      go_wp2_with fail
      have hgs6 := grownBy_setCell wr ⟨g + 1, 0, none⟩ (.slice ta tn tc)
      have hb6 := (Below.refl g wr).setCell (p := ⟨g + 1, 0, none⟩) (show g ≤ g + 1 by omega) (.slice ta tn tc)
      have q0 : (wr.setCell ⟨g + 1, 0, none⟩ (.slice ta tn tc)).cell? ⟨g + 1, 0, none⟩ = some (.slice ta tn tc) := by simp [go_sem, d6]
      obtain ⟨x1, x2⟩ := Hfin.out _ hb6 (HT.out.kept hgs6 (by simp only []; omega))
      refine bodyPost_ret (v := .agg #[.slice ta tn tc]) (by simp [results, Try.results16, go_sem, q0]) rfl ⟨_, G, T, rvs, rfl, Hgs.out, ?_, x2, x1⟩
      rw [← Hall.out]; exact Hcut.out
end Go.Proofs.Ythilfibgpobcjaa
