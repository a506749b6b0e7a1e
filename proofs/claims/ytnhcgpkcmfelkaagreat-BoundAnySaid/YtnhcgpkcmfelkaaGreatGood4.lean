/-
  My own work: tranterref06.Good: what it answers is the call's own.
-/
import Derived.Test.YtnhcgpkcmfelkaaGreatMGood
namespace Go.Proofs.YtnhcgpkcmfelkaaGreat
open Go.RowKit
set_option linter.unusedVariables false
set_option maxRecDepth 100000
attribute [local go_sem ↓] Go.wp_at_zero Go.wp_at_succ

theorem OwnC.mono {w : World} {B B' : Nat} {v : Value} {L : List Cu} (h : OwnC w B v L) (hB : B' ≤ B) : OwnC w B' v L := by
  obtain ⟨pvs, hl, h, hp⟩ := h
  exact ⟨pvs, hl, owns_mono h hB, fun i hi => ⟨(hp i hi).1.mono hB, (hp i hi).2⟩⟩
/-- What Good answers, as the call's own. -/
def InstOwn (i0 : Int) (n0 : Nat) (w : World) (e : Ending) (w' : World) : Prop :=
  ∃ (days : Nat) (ve cp ln : Int) (cv dv : Value) (L : List Cu) (D : List (List Int)), e = .returned (.agg #[.int .i64 days, .int .i64 ve, .int .i64 cp, .int .i64 ln, cv, dv]) ∧ (days : Int) = rnd i0 1 7 ∧ L.length = min n0 6 ∧
    GoodI days ve cp ln L D ∧ OwnC w' w.heap.size cv L ∧ OwnD w' w.heap.size dv D ∧ Below w.heap.size w w'

set_option maxRecDepth 100000 in
set_option maxHeartbeats 3200000 in
theorem goodOwn_is (i0 i1 i2 i3 : Int) (cv dv : Value) (L : List Cu) (D : List (List Int)) (w : World) (h0 : (Lit.int .i64 i0).wf = true) (h1 : (Lit.int .i64 i1).wf = true) (h2 : (Lit.int .i64 i2).wf = true) (h3 : (Lit.int .i64 i3).wf = true)
    (hC : Custs w cv L) (hL : ∀ C ∈ L, WfC C) (hD : Grid w dv D) (hDw : ∀ r ∈ D, ∀ x ∈ r, (Lit.int .i64 x).wf = true) :
    Calls Tryz.prog 7 #[.agg #[.int .i64 i0, .int .i64 i1, .int .i64 i2, .int .i64 i3, cv, dv]] w (InstOwn i0 L.length w) := by
  obtain ⟨w1, ew, hb1, hsz1, hin⟩ := box_inst w (.int .i64 i0) (.int .i64 i1) (.int .i64 i2) (.int .i64 i3) cv dv
  obtain ⟨w2, ew2, hb2, hsz2, hin2⟩ := box_inst w1 (.int .i64 0) (.int .i64 0) (.int .i64 0) (.int .i64 0) (.slice none 0 0) (.slice none 0 0)
  obtain ⟨days, hdays⟩ := Int.eq_ofNat_of_zero_le (show 0 ≤ rnd i0 1 7 by have := rnd_bd i0 1 7 (by decide); omega)
  have hdb := rnd_bd i0 1 7 (by decide)
  have Hdays := Lib.hid hdays.symm
  rw [hdays] at hdb
  obtain ⟨hd1, hd7⟩ := hdb
  have Hday := Lib.hid (fun w => (hdays ▸ round06_is i0 1 7 w h0 (by decide) (by decide) (by decide) : Calls Tryz.prog 24 #[.int .i64 i0, .int .i64 1, .int .i64 7] w fun e w' => e = .returned (.int .i64 days) ∧ w = w'))
  have Hve := Lib.hid (fun w => round06_is i1 0 5 w h1 (by decide) (by decide) (by decide))
  have Hcp := Lib.hid (fun w => round06_is i2 0 40 w h2 (by decide) (by decide) (by decide))
  have Hln := Lib.hid (fun w => round06_is i3 0 300 w h3 (by decide) (by decide) (by decide))
  have hin := hin.below hb2
  obtain ⟨c0, c1, c2, c3, c4, c5⟩ := hin
  have HC := Lib.hid ((hC.below hb1).below hb2)
  have HD := Lib.hid ((hD.below hb1).below hb2)
  have l0 : w.heap.size < w2.heap.size := by omega
  have l1 : w.heap.size + 1 < w2.heap.size := by omega
  have hb := Lib.hid (hb1.trans (hb2.mono hb1.size))
  have HF2 : Hid (∀ j, w2.frozen? ⟨w.heap.size + 1, j, none⟩ = false) := Lib.hid (fun j => by rw [← ew2, ← hsz1]; simp [go_sem])
  rw [hsz1] at hin2
  have hin2' := Lib.hid hin2
  have Hew := Lib.hid ew
  have Hew2 := Lib.hid ew2
  clear hin2 ew ew2 hC hD hsz1 hsz2 hb1 hb2 hdays
  go_enter Tryz.func7, Tryz.ntmps7
  go_upto_region 1 with fail
  rw [Hew.out, Hew2.out]
  generalize eg : w.heap.size = g at *
  have Heg := Lib.hid eg
  clear eg
  obtain ⟨w3, ew3, hb3, hsz3, hin3⟩ := box_inst w2 (.int .i64 days) (.int .i64 (rnd i1 0 5)) (.int .i64 (rnd i2 0 40)) (.int .i64 (rnd i3 0 300)) (.slice none 0 0) (.slice none 0 0)
  have hst : InstSt w2.heap.size days (rnd i1 0 5) (rnd i2 0 40) (rnd i3 0 300) (.slice none 0 0) [] w2 w3 := ⟨inst_lies hin3, by rw [← ew3]; simp [go_sem], by rw [← ew3]; simp [go_sem], OwnC.nil _ _, by simp, hb3⟩
  have Hst := Lib.hid hst
  have Hew3 := Lib.hid ew3
  clear ew3 hst hb3 hsz3 hin3
  have hz1 := rnd_bd i1 0 5 (by decide)
  have hz2 := rnd_bd i2 0 40 (by decide)
  have hz3 := rnd_bd i3 0 300 (by decide)
  have Hbds := Lib.hid (show 0 ≤ rnd i1 0 5 ∧ rnd i1 0 5 ≤ 5 ∧ 0 ≤ rnd i2 0 40 ∧ rnd i2 0 40 ≤ 40 ∧ 0 ≤ rnd i3 0 300 ∧ rnd i3 0 300 ≤ 300 from ⟨hz1.1, hz1.2, hz2.1, hz2.2, hz3.1, hz3.2⟩)
  clear hz1 hz2 hz3
  generalize rnd i1 0 5 = ve at *
  generalize rnd i2 0 40 = cp at *
  generalize rnd i3 0 300 = ln at *
  go_cut [3] (fun s3 wx => ∃ tb, s3 = .pointer (some ⟨tb, 0, none⟩) ∧ tb = w2.heap.size ∧ InstSt tb days ve cp ln (.slice none 0 0) [] w2 wx)
  case first =>
    go_region_held3 (fun w' => w'.cell? ⟨g, 0, none⟩ = some (.int .i64 i0) ∧ w'.cell? ⟨g, 1, none⟩ = some (.int .i64 i1) ∧ w'.cell? ⟨g, 2, none⟩ = some (.int .i64 i2) ∧ w'.cell? ⟨g, 3, none⟩ = some (.int .i64 i3)) (go_keep)
      (first
        | (go_at_call_of 24 (Value.int .i64 i0); refine (Hday.out _).mono ?_; rintro e w' ⟨rfl, rfl⟩)
        | (go_at_call_of 24 (Value.int .i64 i1); refine (Hve.out _).mono ?_; rintro e w' ⟨rfl, rfl⟩)
        | (go_at_call_of 24 (Value.int .i64 i2); refine (Hcp.out _).mono ?_; rintro e w' ⟨rfl, rfl⟩)
        | (go_at_call_of 24 (Value.int .i64 i3); refine (Hln.out _).mono ?_; rintro e w' ⟨rfl, rfl⟩))
    all_goals
      go_wp2_with fail
      go_meet
      rw [Hew3.out]
      exact ⟨_, rfl, rfl, Hst.out.drew⟩
  case rest =>
    obtain ⟨tb, rfl, htb, hst⟩ := hcut
    rw [← htb] at l0 l1
    have Htb := Lib.hid htb
    have HS := Lib.hid hst
    clear htb hst
    obtain ⟨ca, n, cc, rfl, hn, hnm, hcs⟩ := HC.out.open
    have Hn := Lib.hid hn
    have HnL := Lib.hid hn
    have Hcs := Lib.hid hcs
    clear hn hcs
    go_upto_block 0 with fail
    go_cut [4] (fun s4 wx => ∃ (M : List Cu) (v : Value), M.length = min n 6 ∧ InstSt tb days ve cp ln v M w2 wx)
    case first =>
      go_wp2_with fail
      go_loopw [4] (fun i wr => ∃ (k : Nat) (v : Value) (M : List Cu), i = .int .i64 k ∧ k ≤ n ∧ k ≤ 6 ∧ M.length = k ∧ InstSt tb days ve cp ln v M w2 wr) (fun i _ => 6 - (intOf i).toNat)
      case atStart => exact ⟨0, _, [], rfl, Nat.zero_le _, by omega, rfl, HS.out⟩
      case round =>
        obtain ⟨k, v, M, rfl, hkn, hk6, hM, hs⟩ := hrel
        obtain ⟨e0, e1, e2, e3, e4, e5⟩ := lies6_cells hs.lies
        have e6 := hs.f4
        have c4' := cell_lt hs.below l0 c4
        have lt := hs.lies.lt
        have Hs := Lib.hid hs
        have HM := Lib.hid hM
        clear hs hM
        by_cases hgo : k < n ∧ k < 6
        · obtain ⟨g1, g2⟩ := hgo
          obtain ⟨b, o, pv, rfl, hbl, hcu⟩ := Hcs.out k g1
          rw [← Htb.out] at hbl
          have hWf := Lib.hid (hL (nthC L k) (nthC_mem (by rw [Hn.out]; exact g1)))
          have HWr := Lib.hid (hcu.pats.below (by rw [← Htb.out]; exact Hs.out.below))
          obtain ⟨u0, u1, u2, u3, u4, u5, u6, u7, _⟩ := hcu
          have v0 := cell_lt Hs.out.below hbl u0
          have v1 := cell_lt Hs.out.below hbl u1
          have v2 := cell_lt Hs.out.below hbl u2
          have v3 := cell_lt Hs.out.below hbl u3
          have v4 := cell_lt Hs.out.below hbl u4
          have v5 := cell_lt Hs.out.below hbl u5
          have v6 := cell_lt Hs.out.below hbl u6
          have v7 := cell_lt Hs.out.below hbl u7
          have hi0 : (0 : Int) ≤ (k : Int) := by omega
          have hi1 : (k : Int) < (n : Int) := by omega
          have hi6 : (k : Int) < 6 := by omega
          generalize nthC L k = C at *
          clear u0 u1 u2 u3 u4 u5 u6 u7
          go_upto_region 5 with fail
          go_region_law (first
            | (refine step_wanted (by rfl) ?_; go_simp; go_at_call 25; refine (good_is C pv days _ hWf.out ?_ (by omega) (by omega)).mono ?_; (first | exact HWr.out | exact HWr.out.below (belDrew _)); rintro e w5 ⟨C5, pv5, rfl, hG5, hO5, hb5⟩; (first | have b5 := bel2 (Below.refl wr.heap.size wr) hb5 | have b5 := bel2 (belDrew wr) hb5); have e45 := cell_below b5 e4; have e65 := frozen_below b5 lt e6; obtain ⟨pvs, hpl, hrow, hps⟩ := Hs.out.own.below b5; have lt5 := Nat.lt_of_lt_of_le lt b5.size)
            | (refine step_pushN (by rfl) (.tmp 34) (.tmp 43) 22 53 _ 8 80 Tryz.underlying22 info_cust rfl (by decide) (by decide) (by rfl) _ (tb + 1) v M.length (rowC M pvs) (cuV C5 pv5) w5.heap.size (by rfl) (by rfl) (by exact Lies.new w5 (cuV C5 pv5) _) rfl (cuV_one hO5) (World.ownsRow.alloc hrow _) (by rw [HM.out]; omega) (by simp; omega) ?_; intro g6 cap6 w6 hrow6 hg6 hb6 hat6 hge6 hlt6; have Hst6 := Lib.hid (Hs.out.push b5 C5 pv5 hG5 hO5 _ hpl hps hrow6 hg6 hat6); have hne6 := Hs.out.ne; have e46 := hg6.cell (cell_below (belAlloc w5 _) e45) hne6; have e66 := frozen_grown hg6 (by simp; omega) hne6 (frozen_below (belAlloc w5 _) lt5 e65)))
          all_goals
            go_wp2_with fail
            go_roundw
            case rel => exact ⟨k + 1, _, M ++ [C5], by go_num, by omega, by omega, by simp [HM.out], (by first | exact Hst6.out | exact Hst6.out.drew)⟩
            case measure => simp [intOf]; omega
        · have hgo2 : (decide (k < n) = false) ∨ (decide (k < n) = true ∧ decide ((k : Int) < 6) = false) := by
            by_cases q : k < n
            · exact .inr ⟨by simpa using q, by simp; omega⟩
            · exact .inl (by simpa using q)
          have Hkn : Hid (k = min n 6) := Lib.hid (by omega)
          clear hgo hkn hk6
          rcases hgo2 with q1 | ⟨q1, q2⟩
          all_goals
            go_wp2_with fail
            go_meet
            exact ⟨M, v, by rw [HM.out]; exact Hkn.out, Hs.out⟩
    case rest =>
      obtain ⟨M, v, hM, hs⟩ := hcut
      obtain ⟨w6, rfl⟩ : ∃ w6 : World, w6 = wc := ⟨_, rfl⟩
      obtain ⟨va, N, vc, rfl, hN, _, _⟩ := hs.own.custs.open
      have hN6 : N ≤ 6 := by omega
      have Hs := Lib.hid hs
      have HM := Lib.hid hM
      have HN := Lib.hid hN
      obtain ⟨e0, e1, e2, e3, e4, e5⟩ := lies6_cells hs.lies
      have lt6 := hs.lies.lt
      have HS0 := Lib.hid hs.dist
      have Hb6 := Lib.hid hs.below
      have hsz6 : tb ≤ w6.heap.size := by omega
      have hL2 := Lib.hid ((inst_lies hin2'.out).lower hs.below l1)
      have HF6 : Hid (∀ j, w6.frozen? ⟨g + 1, j, none⟩ = false) := Lib.hid (fun j => frozen_lt hs.below l1 (HF2.out j))
      clear hs hM hN
      go_wp2_with fail
      go_loopw [6, 7, 8] (fun i u7 u8 wr => ∃ (k : Nat) (v7 v8 dvv : Value) (E : List (List Int)), i = .int .i64 k ∧ v7 = u7 ∧ v8 = u8 ∧ k ≤ N + 1 ∧ E.length = k ∧ GoodRows N E ∧ DistSt tb days ve cp ln (.slice va N vc) dvv E w6 wr) (fun i _ _ _ => N + 1 - (intOf i).toNat)
      case atStart => exact ⟨0, _, _, _, [], rfl, rfl, rfl, Nat.zero_le _, rfl, goodRows_nil N, HS0.out⟩
      case round =>
        obtain ⟨i, v7, v8, dvv, E, rfl, rfl, rfl, hi, hE, hG, hd⟩ := hrel
        have HE := Lib.hid hE
        have HG := Lib.hid hG
        have Hd := Lib.hid hd
        obtain ⟨r0, r1, r2, r3, r4, r5⟩ := lies6_cells hd.lies
        have r6 := hd.f5
        have ltr := hd.lies.lt
        have hbr := Hb6.out.grown hd.grown hsz6 (by simp)
        have d0 := cell_lt hbr l0 c0
        have d1 := cell_lt hbr l0 c1
        have d2 := cell_lt hbr l0 c2
        have d3 := cell_lt hbr l0 c3
        have d4 := cell_lt hbr l0 c4
        have d5 := cell_lt hbr l0 c5
        have lg : g < wr.heap.size := World.block_lt_of_cell? wr _ d0
        have HDr := Lib.hid (HD.out.below (by rw [← Htb.out]; exact hbr))
        have Hbr := Lib.hid hbr
        clear hE hG hd hbr
        by_cases hlt : i ≤ N
        · obtain ⟨w7, hmk, hown7, hb7⟩ := made_ints wr (N + 1) (by omega)
          rw [show (((N + 1 : Nat)) : Int) = (N : Int) + 1 from by simp] at hmk
          have Hmk := Lib.hid hmk
          have Hown7 := Lib.hid hown7
          have Hb7 := Lib.hid hb7
          have hiN : (i : Int) ≤ (N : Int) := by omega
          have hN0 : (N : Int) ≤ 6 := by omega
          clear hmk hown7 hb7
          go_wp2_with fail
          rw [Hmk.out]
          go_wp2_with fail
          obtain ⟨wo, rfl⟩ : ∃ wo : World, wo = wr := ⟨_, rfl⟩
          generalize egr : wo.heap.size = gr at *
          have Hgr := Lib.hid egr
          clear egr
          go_loopw [8] (fun u wq => ∃ (j : Nat) (xs : List Int), u = .int .i64 j ∧ j ≤ N + 1 ∧ RowOk N i xs ∧ Own wq gr (.slice (some ⟨gr, 0, none⟩) (N + 1) (N + 1)) xs ∧ Below gr wo wq) (fun u _ => N + 1 - (intOf u).toNat)
          case atStart => exact ⟨0, _, rfl, Nat.zero_le _, rowOk_zero N i, Hown7.out, Hb7.out⟩
          case round =>
            obtain ⟨j, xs, rfl, hj, hrow, hown, hbq⟩ := hrel
            have Hrow := Lib.hid hrow
            have hxl := hrow.1
            have HbQ : Hid (Below wo.heap.size wo wr) := Lib.hid (by rw [Hgr.out]; exact hbq)
            have HGq := Lib.hid (HDr.out.below HbQ.out)
            have q0 := cell_lt hbq lg d0
            have q1 := cell_lt hbq lg d1
            have q2 := cell_lt hbq lg d2
            have q3 := cell_lt hbq lg d3
            have q4 := cell_lt hbq lg d4
            have q5 := cell_lt hbq lg d5
            have lq : gr ≤ wr.heap.size := by have := hbq.size; rw [Hgr.out] at this; exact this
            have Hxl := Lib.hid hxl
            clear hrow hxl
            by_cases hlj : j ≤ N
            · have hjN : (j : Int) ≤ (N : Int) := by omega
              by_cases hij : i = j
              · subst hij
                have hne : (i != i) = false := by simp
                have hne' : ((i : Int) != (i : Int)) = false := by simp
                go_wp2_with fail
                go_roundw
                case rel => exact ⟨i + 1, xs, by go_num, by omega, Hrow.out, hown, hbq⟩
                case measure => simp [intOf]; omega
              · have hne : (i != j) = true := by simpa using hij
                have hne' : ((i : Int) != (j : Int)) = true := by simp; omega
                have Hij := Lib.hid hij
                clear hij
                have Hown := Lib.hid hown
                have Hbq := Lib.hid hbq
                clear hown hbq
                go_wp2_with fail
                refine (refArc_is i0 i1 i2 i3 _ dv D i j _ HGq.out).mono ?_
                rintro e w8 ⟨rfl, hb8⟩
                have hwf := Lib.hid (arc_wf hDw (i : Int) (j : Int))
                generalize arcI D (i : Int) (j : Int) = A at *
                go_wp2_with fail
                refine (round06_is A 0 60 _ hwf.out (by decide) (by decide) (by decide)).mono ?_
                rintro e w' ⟨rfl, rfl⟩
                have hA := rnd_bd A 0 60 (by decide)
                have HA := Lib.hid hA
                generalize rnd A 0 60 = R at *
                have Hown8 := Lib.hid (Hown.out.below hb8)
                have Hb8 := Lib.hid (Hbq.out.trans (hb8.mono lq))
                obtain ⟨gr', c', hv', _, _, _, hcell⟩ := Hown8.out.out (by rw [Hxl.out]; omega)
                simp only [Value.slice.injEq, Option.some.injEq, Addr.mk.injEq, and_true] at hv'
                obtain ⟨rfl, hv1, hv2⟩ := hv'
                obtain ⟨f0, f1⟩ := hcell j (by rw [Hxl.out]; omega)
                rw [Nat.zero_add] at f0 f1
                have hj0 : (0 : Int) ≤ (j : Int) := by omega
                have hj1 : (j : Int) < (N : Int) + 1 := by omega
                have hset := Hown8.out.set j R (by rw [Hxl.out]; omega)
                rw [Nat.zero_add] at hset
                have Hset := Lib.hid hset
                clear hA hcell hv1 hv2 hset hb8
                go_wp2_with fail
                go_roundw
                case rel => exact ⟨j + 1, xs.set j R, by go_num, by omega, rowOk_set Hrow.out hlj HA.out Hij.out, Hset.out, Hb8.out.setCell (p := ⟨gr, j, none⟩) (Nat.le_refl _) _⟩
                case measure => simp [intOf]; omega
            · have hjj : j = N + 1 := by omega
              subst hjj
              have r5q := cell_lt hbq ltr r5
              have r6q := frozen_lt hbq ltr r6
              have HdL := Lib.hid (Hd.out.lies.lower hbq ltr)
              have HoD := Lib.hid (Hd.out.own.below HbQ.out)
              have hsz : w6.heap.size ≤ gr := by have := Hd.out.grown.size; rw [Hgr.out] at this; exact this
              have hownR := Lib.hid (hown.mono hsz)
              have Hne : Hid (∀ k, dvv.ownBlock = some k → (Value.slice (some ⟨gr, 0, none⟩) (N + 1) (N + 1)).ownBlock ≠ some k) := Lib.hid (fun k hk e => by
                have := (Hd.out.own.lt k hk).2
                rw [Hgr.out] at this
                simp only [Value.ownBlock, Option.some.injEq] at e
                omega)
              have Hl : Hid (E.length + 1 ≤ 1000000000000) := Lib.hid (by rw [HE.out]; omega)
              have hsq : w6.heap.size ≤ wr.heap.size := by omega
              have hgq : w6.grownBy wr (some tb) := grown_step Hd.out.grown (r := none) (grownBy_below HbQ.out) (by simp)
              have Hgq := Lib.hid hgq
              clear hown hbq hgq hi hlt hj hlj
              go_wp2_with (at_builtin; refine wpList_pushD rfl _ _ rfl wr w6.heap.size dvv E (.slice (some ⟨gr, 0, none⟩) (N + 1) (N + 1)) xs rfl rfl rfl HoD.out hownR.out Hne.out Hl.out hsq ?_)
              intro g9 c9 w9 hown9 hg9 hb9 hg9a hg9b
              have hn9 := HoD.out.not' lt6
              have HL9 := Lib.hid (HdL.out.kept hg9 hn9)
              have r59 := HL9.out.at 5 _ rfl
              have r69 := frozen_grown hg9 (by omega) hn9 r6q
              have Hg9 := Lib.hid (grown_step Hgq.out hg9 (fun x hx => (HoD.out.lt x hx).1))
              have Ho9 := Lib.hid hown9
              clear hown9 hg9 hb9 hn9 r5q r6q
              go_wp2_with fail
              go_roundw
              case rel =>
                refine ⟨i + 1, _, _, _, E ++ [xs], by go_num, rfl, rfl, by omega, by simp [HE.out], goodRows_push HG.out HE.out Hrow.out, ⟨HL9.out.set 5 _ (by simp), by rw [World.frozen?_setCell]; exact r69, Ho9.out.kept (grownBy_setCell w9 ⟨tb, 5, none⟩ _) (by simp; omega), grownBy_trans Hg9.out (grownBy_setCell w9 ⟨tb, 5, none⟩ _)⟩⟩
              case measure => simp [intOf]; omega
        · have hiN : i = N + 1 := by omega
          have HlG := Lib.hid (hL2.out.kept Hd.out.grown (by simp; omega))
          obtain ⟨s0, s1, s2, s3, s4, s5⟩ := lies6_cells HlG.out
          have hn1 : some (g + 1) ≠ some tb := by simp; omega
          have f0 := frozen_grown Hd.out.grown (by omega) hn1 (HF6.out 0)
          have f1 := frozen_grown Hd.out.grown (by omega) hn1 (HF6.out 1)
          have f2 := frozen_grown Hd.out.grown (by omega) hn1 (HF6.out 2)
          have f3 := frozen_grown Hd.out.grown (by omega) hn1 (HF6.out 3)
          have f4 := frozen_grown Hd.out.grown (by omega) hn1 (HF6.out 4)
          have f5 := frozen_grown Hd.out.grown (by omega) hn1 (HF6.out 5)
          have HiN := Lib.hid hiN
          have hNi : (N : Int) < (i : Int) := by omega
          obtain ⟨ea, en, ec, rfl, _, _, _⟩ := Hd.out.own.grid.open
          clear hiN hn1 hi hlt
          go_wp2_with fail
          have q := set6 HlG.out (.int .i64 days) (.int .i64 ve) (.int .i64 cp) (.int .i64 ln) (.slice va N vc) (.slice ea en ec)
          have q0 := q.at 0 _ rfl
          have q1 := q.at 1 _ rfl
          have q2 := q.at 2 _ rfl
          have q3 := q.at 3 _ rfl
          have q4 := q.at 4 _ rfl
          have q5 := q.at 5 _ rfl
          refine bodyPost_ret (v := .agg #[.int .i64 days, .int .i64 ve, .int .i64 cp, .int .i64 ln, .slice va N vc, .slice ea en ec]) (by simp [results, Tryz.results7, go_sem, q0, q1, q2, q3, q4, q5]) rfl
            ⟨days, ve, cp, ln, .slice va N vc, .slice ea en ec, M, E, rfl, Hdays.out, ?_, ?_, ?_, ?_, ?_⟩
          · rw [HnL.out]; exact HM.out
          · obtain ⟨z1, z2, z3, z4, z5, z6⟩ := Hbds.out
            refine ⟨by omega, by omega, z1, z2, z3, z4, z5, z6, by rw [HN.out]; exact hN6, Hs.out.good, by rw [HE.out, HN.out]; exact HiN.out, by rw [HN.out]; exact HG.out⟩
          · rw [Heg.out]
            exact ((Hs.out.own.kept Hd.out.grown (by simp)).kept (grown6 _ _ _ _ _ _ _ _) (by simp; omega)).mono (by omega)
          · rw [Heg.out]
            exact (Hd.out.own.kept (grown6 _ _ _ _ _ _ _ _) (by simp; omega)).mono (by omega)
          · rw [Heg.out]
            exact hb.out.trans ((Hbr.out.mono (by omega)).trans (below6 _ _ _ _ _ _ _ _ (by omega)))
end Go.Proofs.YtnhcgpkcmfelkaaGreat
