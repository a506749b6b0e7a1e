/-
  My own work: tranterref06.good of a periodic customer: its contract.
-/
import Derived.Test.YtpelbfjhljlbkaaGood
namespace Go.Proofs.Ytpelbfjhljlbkaa
open Go.RowKit
set_option linter.unusedVariables false
set_option maxRecDepth 100000

theorem lies_cells {w : World} {g : Nat} {v0 v1 v2 v3 v4 v5 v6 v7 : Value} (h : Lies w g [v0, v1, v2, v3, v4, v5, v6, v7]) :
    w.cell? ⟨g, 0, none⟩ = some v0 ∧ w.cell? ⟨g, 1, none⟩ = some v1 ∧ w.cell? ⟨g, 2, none⟩ = some v2 ∧ w.cell? ⟨g, 3, none⟩ = some v3 ∧ w.cell? ⟨g, 4, none⟩ = some v4 ∧ w.cell? ⟨g, 5, none⟩ = some v5 ∧ w.cell? ⟨g, 6, none⟩ = some v6 ∧ w.cell? ⟨g, 7, none⟩ = some v7 :=
  ⟨h.at 0 _ rfl, h.at 1 _ rfl, h.at 2 _ rfl, h.at 3 _ rfl, h.at 4 _ rfl, h.at 5 _ rfl, h.at 6 _ rfl, h.at 7 _ rfl⟩
theorem frozen_below {w w' : World} (hb : Below w.heap.size w w') {b o : Nat} (hl : b < w.heap.size) (h : w.frozen? ⟨b, o, none⟩ = false) : w'.frozen? ⟨b, o, none⟩ = false := (hb.frozen (p := ⟨b, o, none⟩) hl).trans h
theorem frozen_lt {B : Nat} {w w' : World} (hb : Below B w w') {b o : Nat} (hl : b < B) (h : w.frozen? ⟨b, o, none⟩ = false) : w'.frozen? ⟨b, o, none⟩ = false := (hb.frozen (p := ⟨b, o, none⟩) hl).trans h
theorem frozen_grown {w w' : World} {r : Option Nat} (hg : w.grownBy w' r) {b o : Nat} (hl : b < w.heap.size) (hne : some b ≠ r) (h : w.frozen? ⟨b, o, none⟩ = false) : w'.frozen? ⟨b, o, none⟩ = false := (hg.frozen_far ⟨b, o, none⟩ hl hne).trans h

/-- The customer that good makes of a periodic one stands in block h. -/
structure GoodSt (h days k : Nat) (DM : Int) (v : Value) (xs : List Nat) (w2 wr : World) : Prop where
  len : xs.length = k
  lt : ∀ x ∈ xs, x < 2 ^ days
  lies : Lies wr h [.int .i64 1, .int .i64 DM, v, .int .i64 0, .int .i64 0, .int .i64 0, .int .i64 0, .int .i64 0]
  free : wr.frozen? ⟨h, 2, none⟩ = false
  own : OwnW wr (h + 1) v xs
  below : Below h w2 wr

set_option maxRecDepth 100000 in
set_option maxHeartbeats 3200000 in
theorem goodPer_is (C : Cu) (pv : Value) (days : Nat) (w : World) (h1 : (Lit.int .i64 C.dm).wf = true) (hk : C.kd.tmod 2 ≠ 0) (hp : Words w pv C.ps) (hlw : ∀ x ∈ C.ps, x < 18446744073709551616) (hdays : 1 ≤ days) (hdays2 : days ≤ 7) :
    Calls Try.prog 62 #[.agg #[.int .i64 C.kd, .int .i64 C.dm, pv, .int .i64 C.rt, .int .i64 C.sz, .int .i64 C.st, .int .i64 C.ru, .int .i64 C.hd], .int .i64 days] w (GoodOut days w) := by
  obtain ⟨kd, dm, ps, rt, sz, st, ru, hd⟩ := C
  simp only at *
  obtain ⟨w1, ew, hb1, hsz1, hcu⟩ := box_cust w kd dm pv rt sz st ru hd
  obtain ⟨w2, ew2, hb2, hsz2, hcu2⟩ := box_cust w1 0 0 (.slice none 0 0) 0 0 0 0 0
  obtain ⟨w3, ew3, hb3, hsz3, hcu3⟩ := box_cust w2 1 (rnd dm 1 15) (.slice none 0 0) 0 0 0 0 0
  have hbd := rnd_bd dm 1 15 (by decide)
  have Hround := Lib.hid (fun w => round06_is dm 1 15 w h1 (by decide) (by decide) (by decide))
  obtain ⟨DM, hDM⟩ : ∃ DM, DM = rnd dm 1 15 := ⟨_, rfl⟩
  rw [← hDM] at ew3 hcu3 hbd Hround
  have hcu := hcu.below hb2
  have hk' : (kd.tmod 2 == 0) = false := by simpa using hk
  obtain ⟨a, n, c, rfl, hn, hnc, hcm, hcell⟩ := ((hp.below hb1).below hb2).open
  have Hn := Lib.hid hn
  have Hcell := Lib.hid hcell
  have Hlw := Lib.hid hlw
  have Hew := Lib.hid ew
  have Hew2 := Lib.hid ew2
  have Hew3 := Lib.hid ew3
  rw [hsz1] at hcu2
  have HL2 : Hid (Lies w2 (w.heap.size + 1) [.int .i64 0, .int .i64 0, .slice none 0 0, .int .i64 0, .int .i64 0, .int .i64 0, .int .i64 0, .int .i64 0]) := Lib.hid (cust_lies hcu2)
  have HF2 : Hid (∀ j, w2.frozen? ⟨w.heap.size + 1, j, none⟩ = false) := Lib.hid (fun j => by rw [← ew2, ← hsz1]; simp [go_sem])
  have hf3 : w3.frozen? ⟨w2.heap.size, 2, none⟩ = false := by rw [← ew3]; simp [go_sem]
  have HS0 : Hid (GoodSt w2.heap.size days 0 DM (.slice none 0 0) [] w2 w3) := Lib.hid ⟨rfl, by simp, cust_lies hcu3, hf3, OwnW.nil _ _, hb3⟩
  have hb := Lib.hid (hb1.trans (hb2.mono hb1.size))
  have c0 := hcu.c0
  have c1 := hcu.c1
  have c2 := hcu.c2
  have l0 := hcu.lt
  have l1 := hcu2.lt
  have hh : w.heap.size + 1 < w2.heap.size := by omega
  clear ew ew2 ew3 hk hn hcell hlw hp hsz1 hsz2 hsz3 hb1 hb2 hb3 hcu hcu2 hcu3 hf3 hDM
  go_enter Try.func62, Try.ntmps62
  go_upto_region 1 with (fail)
  rw [Hew.out, Hew2.out]
  generalize eg : w.heap.size = g at *
  have Heg := Lib.hid eg
  clear eg
  go_wp2_with fail
  refine (Hround.out _).mono ?_
  rintro e w' ⟨rfl, rfl⟩
  go_upto_region 6 with (fail)
  rw [Hew3.out]
  generalize eh : w2.heap.size = tb at *
  have Heh := Lib.hid eh
  clear eh
  go_wp2_with fail
  go_loopw [7, 8, 9] (fun i p d wr => ∃ (k : Nat) (v pu du : Value) (xs : List Nat), i = .int .i64 k ∧ pu = p ∧ du = d ∧ k ≤ n ∧ k ≤ 4 ∧ GoodSt tb days k DM v xs w2 wr) (fun i _ _ _ => 4 - (intOf i).toNat)
  case atStart => exact ⟨0, _, _, _, [], rfl, rfl, rfl, Nat.zero_le _, by omega, HS0.out⟩
  case round =>
    obtain ⟨k, v, pu, du, xs, rfl, rfl, rfl, hkn, hk4, hs⟩ := hrel
    have Hs := Lib.hid hs
    have Hk4 := Lib.hid hk4
    obtain ⟨e0, e1, e2, e3, e4, e5, e6, e7⟩ := lies_cells hs.lies
    have e8 := hs.free
    have c2' := cell_lt hs.below l0 c2
    have lh := hs.lies.lt
    clear hs
    by_cases hgo : k < n ∧ k < 4
    · obtain ⟨g1, g2⟩ := hgo
      have hX := Lib.hid (Hlw.out (nthN ps k) (nthN_mem (by rw [Hn.out]; exact g1)))
      obtain ⟨b, o, rfl, hbl, hcx⟩ := Hcell.out k g1

      have hcx' := cell_lt Hs.out.below hbl hcx
      have hi0 : (0 : Int) ≤ (k : Int) := by omega
      have hi1 : (k : Int) < (n : Int) := by omega
      have hi4 : (k : Int) < 4 := by omega
      generalize nthN ps k = X at *
      clear hcx
      obtain ⟨wo, rfl⟩ : ∃ wo : World, wo = wr := ⟨_, rfl⟩
      go_wp2_with fail
      go_loopw [8, 9] (fun p d wr => ∃ (j P : Nat), d = .int .i64 j ∧ p = .int .u64 (P : Int) ∧ j ≤ days ∧ P < 2 ^ j ∧ Below wo.heap.size wo wr) (fun _ d _ => days - (intOf d).toNat)
      case atStart => exact ⟨0, 0, rfl, rfl, Nat.zero_le _, by simp, Below.refl _ _⟩
      case round =>
        obtain ⟨j, P, rfl, rfl, hj, hP, hbq⟩ := hrel
        have HP := Lib.hid hP
        clear hP
        by_cases hlt : j < days
        · have hP64 : Hid (P < 18446744073709551616) := Lib.hid (Nat.lt_of_lt_of_le HP.out (Nat.le_trans (Nat.pow_le_pow_right (by decide) (show j ≤ 7 by omega)) (by decide)))
          have cxq := cell_below hbq hcx'
          have c2q := cell_below hbq c2'
          have hj0 : (j : Int) < (days : Int) := by omega
          go_wp2_with fail
          refine (refHas_is X j _ hX.out).mono ?_
          rintro e wz ⟨rfl, hbz⟩
          have hbz2 := hbq.trans (hbz.mono hbq.size)
          cases hbit : hasB X j with
          | true =>
            clear hbit cxq c2q hbq hbz
            go_wp2_with fail
            refine (put_is P j 1 _ hP64.out (.inr rfl)).mono ?_
            rintro e wy ⟨rfl, hby⟩
            have hby2 := hbz2.trans (hby.mono hbz2.size)
            clear hby hbz2
            go_wp2_with fail
            go_roundw
            case rel => exact ⟨j + 1, putN P j 1, by go_num, rfl, by omega, by unfold putN; rw [if_pos rfl]; exact with_below HP.out, hby2⟩
            case measure => simp [intOf]; omega
          | false =>
            clear hbit cxq c2q hbq hbz
            go_wp2_with fail
            go_roundw
            case rel => exact ⟨j + 1, P, by go_num, rfl, by omega, by have := two_pow_succ j; have := HP.out; omega, hbz2⟩
            case measure => simp [intOf]; omega
        · have hjd : j = days := by omega
          subst hjd
          have hlq := Lib.hid (Hs.out.lies.below hbq)
          have hoq := Lib.hid (Hs.out.own.below hbq)
          have hbq2 := Lib.hid (Hs.out.below.trans (hbq.mono (by omega)))
          have e2q := cell_below hbq e2
          have e8q := frozen_below hbq lh e8
          have lhq : tb + 1 ≤ wr.heap.size := by have := hbq.size; omega
          have hlen : Hid (xs.length + 1 ≤ 1000000000000) := Lib.hid (by rw [Hs.out.len]; omega)
          clear hbq
          go_wp2_with (at_builtin; refine wpList_pushW rfl _ _ rfl wr (tb + 1) v xs P rfl rfl hoq.out hlen.out lhq ?_)
          intro g5 c5 w5 hown5 hg5 hb5 hg5a hg5b
          have hl5 := Lib.hid (hlq.out.kept hg5 (hoq.out.not' (Nat.lt_succ_self tb)))
          have e25 := hl5.out.at 2 _ rfl
          have e85 := frozen_grown hg5 (by omega) (hoq.out.not' (Nat.lt_succ_self tb)) e8q
          have Ho5 := Lib.hid hown5
          have hb5' := Lib.hid (hbq2.out.trans (hb5.mono (by omega)))
          clear hown5 hg5 hb5 e2q e8q
          go_wp2_with fail
          go_roundw
          case rel =>
            refine ⟨k + 1, _, _, _, xs ++ [P], by go_num, rfl, rfl, by omega, by omega, ⟨by simp [Hs.out.len], ?_, hl5.out.set 2 _ (by simp), by rw [World.frozen?_setCell]; exact e85, ?_, hb5'.out.setCell (p := ⟨tb, 2, none⟩) (Nat.le_refl _) _⟩⟩
            · intro x hx
              rcases List.mem_append.1 hx with hx | hx
              · exact Hs.out.lt x hx
              · simp at hx; subst hx; exact HP.out
            · exact Ho5.out.kept (grownBy_setCell w5 ⟨tb, 2, none⟩ _) (Ho5.out.not (Nat.lt_succ_self tb))
          case measure => simp [intOf]; omega
    · have hLg := Lib.hid (HL2.out.lower Hs.out.below hh)
      obtain ⟨d0, d1, d2, d3, d4, d5, d6, d7⟩ := lies_cells hLg.out
      have f0 := frozen_lt Hs.out.below hh (HF2.out 0)
      have f1 := frozen_lt Hs.out.below hh (HF2.out 1)
      have f2 := frozen_lt Hs.out.below hh (HF2.out 2)
      have f3 := frozen_lt Hs.out.below hh (HF2.out 3)
      have f4 := frozen_lt Hs.out.below hh (HF2.out 4)
      have f5 := frozen_lt Hs.out.below hh (HF2.out 5)
      have f6 := frozen_lt Hs.out.below hh (HF2.out 6)
      have f7 := frozen_lt Hs.out.below hh (HF2.out 7)
      obtain ⟨va, vn, vc, rfl, hvn, _, _, _⟩ := Hs.out.own.words.open
      have hvk : vn = k := by rw [← hvn]; exact Hs.out.len
      subst hvk
      clear hvn
      have hgo2 : (decide (vn < n) = false) ∨ (decide (vn < n) = true ∧ decide ((vn : Int) < 4) = false) := by
        by_cases q : vn < n
        · exact .inr ⟨by simpa using q, by simp; omega⟩
        · exact .inl (by simpa using q)
      clear hgo hkn hk4
      by_cases hk0 : vn = 0
      · have hk0' : ((vn : Int) == 0) = true := by simpa using hk0
        have hxs : xs = [] := List.length_eq_zero_iff.1 (Hs.out.len.trans hk0)
        have hl5' := Hs.out.lies
        have hown0 := Hs.out.own
        have hb0 := Hs.out.below
        have lhq : tb + 1 ≤ wr.heap.size := by omega
        subst hxs
        clear Hs hk0
        have Hl0 := Lib.hid hl5'
        have Hown0 := Lib.hid hown0
        have Hb0 := Lib.hid hb0
        clear hl5' hown0 hb0
        rcases hgo2 with q1 | ⟨q1, q2⟩
        all_goals
          go_wp2_with (at_builtin; refine wpList_pushW rfl _ _ rfl wr (tb + 1) (.slice va vn vc) [] 1 rfl rfl Hown0.out (by simp) lhq ?_)
          intro g5 c5 w5 hown5 hg5 hb5 hg5a hg5b
          have hl5 := Lib.hid (Hl0.out.kept hg5 (Hown0.out.not' (Nat.lt_succ_self tb)))
          have hd5 := Lib.hid (hLg.out.kept hg5 (Hown0.out.not' (by omega)))
          have e85 := frozen_grown hg5 (by omega) (Hown0.out.not' (Nat.lt_succ_self tb)) e8
          have f05 := frozen_grown hg5 (by omega) (Hown0.out.not' (by omega)) f0
          have f15 := frozen_grown hg5 (by omega) (Hown0.out.not' (by omega)) f1
          have f25 := frozen_grown hg5 (by omega) (Hown0.out.not' (by omega)) f2
          have f35 := frozen_grown hg5 (by omega) (Hown0.out.not' (by omega)) f3
          have f45 := frozen_grown hg5 (by omega) (Hown0.out.not' (by omega)) f4
          have f55 := frozen_grown hg5 (by omega) (Hown0.out.not' (by omega)) f5
          have f65 := frozen_grown hg5 (by omega) (Hown0.out.not' (by omega)) f6
          have f75 := frozen_grown hg5 (by omega) (Hown0.out.not' (by omega)) f7
          have Ho5 := Lib.hid hown5
          have hb5' := Lib.hid (Hb0.out.trans (hb5.mono (by omega)))
          clear hown5 hg5 hb5 e0 e1 e2 e3 e4 e5 e6 e7 e8 d0 d1 d2 d3 d4 d5 d6 d7 f0 f1 f2 f3 f4 f5 f6 f7 c2'
          obtain ⟨e0, e1, e2, e3, e4, e5, e6, e7⟩ := lies_cells hl5.out
          obtain ⟨d0, d1, d2, d3, d4, d5, d6, d7⟩ := lies_cells hd5.out
          go_wp2_with fail
          have q := set8 (hd5.out.other ⟨tb, 2, none⟩ (.slice (some ⟨g5, 0, none⟩) (([] : List Nat).length + 1) c5) (by simp; omega)) (.int .i64 1) (.int .i64 DM) (.slice (some ⟨g5, 0, none⟩) (([] : List Nat).length + 1) c5) (.int .i64 0) (.int .i64 0) (.int .i64 0) (.int .i64 0) (.int .i64 0)
          have q0 := q.at 0 _ rfl
          have q1 := q.at 1 _ rfl
          have q2 := q.at 2 _ rfl
          have q3 := q.at 3 _ rfl
          have q4 := q.at 4 _ rfl
          have q5 := q.at 5 _ rfl
          have q6 := q.at 6 _ rfl
          have q7 := q.at 7 _ rfl
          simp only [List.length_nil, Nat.zero_add] at q0 q1 q2 q3 q4 q5 q6 q7
          refine bodyPost_ret (v := .agg #[.int .i64 1, .int .i64 DM, .slice (some ⟨g5, 0, none⟩) 1 c5, .int .i64 0, .int .i64 0, .int .i64 0, .int .i64 0, .int .i64 0]) (by simp [results, Try.results62, go_sem, q0, q1, q2, q3, q4, q5, q6, q7]) rfl
            ⟨⟨1, DM, [1], 0, 0, 0, 0, 0⟩, _, rfl, .inr ⟨rfl, hbd.1, hbd.2, rfl, rfl, rfl, rfl, rfl, by simp, by simp, ?_⟩, ?_, ?_⟩
          · intro p hp
            simp at hp
            subst hp
            have := Nat.pow_le_pow_right (show 0 < 2 by decide) hdays
            omega
          · rw [Heg.out]
            have o1 := Ho5.out.kept (grownBy_setCell w5 ⟨tb, 2, none⟩ (.slice (some ⟨g5, 0, none⟩) (([] : List Nat).length + 1) c5)) (Ho5.out.not (Nat.lt_succ_self tb))
            exact OwnW.mono (o1.kept (grown8 _ _ _ _ _ _ _ _ _ _) (o1.not (by omega))) (by omega)
          · rw [Heg.out]
            have o2 := hb5'.out.setCell (p := ⟨tb, 2, none⟩) (Nat.le_refl _) (.slice (some ⟨g5, 0, none⟩) (([] : List Nat).length + 1) c5)
            exact hb.out.trans ((o2.mono (by omega)).trans (below8 _ _ _ _ _ _ _ _ _ _ (by omega)))
      · have hk0' : ((vn : Int) == 0) = false := by simpa using hk0
        have Hk0 := Lib.hid hk0
        clear hk0
        rcases hgo2 with q1 | ⟨q1, q2⟩
        all_goals
          go_wp2_with fail
          have q := set8 hLg.out (.int .i64 1) (.int .i64 DM) (.slice va vn vc) (.int .i64 0) (.int .i64 0) (.int .i64 0) (.int .i64 0) (.int .i64 0)
          have q0 := q.at 0 _ rfl
          have q1 := q.at 1 _ rfl
          have q2 := q.at 2 _ rfl
          have q3 := q.at 3 _ rfl
          have q4 := q.at 4 _ rfl
          have q5 := q.at 5 _ rfl
          have q6 := q.at 6 _ rfl
          have q7 := q.at 7 _ rfl
          refine bodyPost_ret (v := .agg #[.int .i64 1, .int .i64 DM, .slice va vn vc, .int .i64 0, .int .i64 0, .int .i64 0, .int .i64 0, .int .i64 0]) (by simp [results, Try.results62, go_sem, q0, q1, q2, q3, q4, q5, q6, q7]) rfl
            ⟨⟨1, DM, xs, 0, 0, 0, 0, 0⟩, .slice va vn vc, rfl, .inr ⟨rfl, hbd.1, hbd.2, rfl, rfl, rfl, rfl, rfl, ?_, ?_, Hs.out.lt⟩, ?_, ?_⟩
          · have := Hs.out.len; have := Hk0.out; simp; omega
          · have := Hs.out.len; have := Hk4.out; simp; omega
          · rw [Heg.out]
            exact OwnW.mono (Hs.out.own.kept (grown8 _ _ _ _ _ _ _ _ _ _) (Hs.out.own.not (by omega))) (by omega)
          · rw [Heg.out]
            exact hb.out.trans ((Hs.out.below.mono (by omega)).trans (below8 _ _ _ _ _ _ _ _ _ _ (by omega)))
end Go.Proofs.Ytpelbfjhljlbkaa
