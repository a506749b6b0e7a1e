/-
  My own work: tranterref06.round, good: their contracts.
  My own work: tranterref06.good of a periodic customer: its contract.
  My own work: slices of slices of ints; an instance in a block of its own; inst.Arc, tranterref06.Arc: their contracts.
  My own work: slices of rows of the call's own.
  My own work: tranterref06.Good: its contract.
-/
import Derived.Test.YtnhcgpkcmfelkaaGreatMOwn
import Derived.Test.YtnhcgpkcmfelkaaGreatMNum
import Derived.Test.YtnhcgpkcmfelkaaGreatMDays
import Derived.Deep.RegionHeld3
import Derived.Deep.CutBlock
import Derived.Test.YtnhcgpkcmfelkaaGreatBase
import Derived.RegionTactic
import Derived.Deep.QuietTactic
import Derived.BigQuiet
import Derived.Deep.RegionLaw
import Derived.Deep.DrawnRows
import Derived.Deep.DeepCutAuto
namespace Go.Proofs.YtnhcgpkcmfelkaaGreat
section
open Go.RowKit
set_option linter.unusedVariables false
set_option maxRecDepth 100000

theorem round06_is (n l m : Int) (w : World) (hn : (Lit.int .i64 n).wf = true) (hl : 0 ≤ l) (hlm : l ≤ m) (hm : m ≤ 1099511627776) :
    Calls Tryz.prog 24 #[.int .i64 n, .int .i64 l, .int .i64 m] w fun e w' => e = .returned (.int .i64 (rnd n l m)) ∧ w = w' := by
  by_cases h : n < 0
  · go_enter Tryz.func24, Tryz.ntmps24
    go_wp2_with fail
    go_ret
    rw [← rnd_neg n l m hn h hl hlm hm]
    exact ⟨rfl, rfl⟩
  · go_enter Tryz.func24, Tryz.ntmps24
    go_wp2_with fail
    go_ret
    rw [← rnd_pos n l m (by omega) hl hlm hm]
    exact ⟨rfl, rfl⟩

/-- A customer of an instance that may be, with small numbers, for so many days. -/
def GoodC (days : Nat) (C : Cu) : Prop :=
  (C.kd = 2 ∧ C.dm = 0 ∧ C.ps = [] ∧ 0 ≤ C.rt ∧ C.rt ≤ 9 ∧ 1 ≤ C.sz ∧ C.sz ≤ 30 ∧ 0 ≤ C.st ∧ C.st ≤ C.sz ∧ (C.ru = 1 ∨ C.ru = 2) ∧ 0 ≤ C.hd ∧ C.hd ≤ 4) ∨
  (C.kd = 1 ∧ 1 ≤ C.dm ∧ C.dm ≤ 15 ∧ C.rt = 0 ∧ C.sz = 0 ∧ C.st = 0 ∧ C.ru = 0 ∧ C.hd = 0 ∧ 1 ≤ C.ps.length ∧ C.ps.length ≤ 4 ∧ ∀ p ∈ C.ps, p < 2 ^ days)

/-- What good answers. -/
def GoodOut (days : Nat) (w : World) (e : Ending) (w' : World) : Prop :=
  ∃ C pv, e = .returned (.agg #[.int .i64 C.kd, .int .i64 C.dm, pv, .int .i64 C.rt, .int .i64 C.sz, .int .i64 C.st, .int .i64 C.ru, .int .i64 C.hd]) ∧ GoodC days C ∧ OwnW w' w.heap.size pv C.ps ∧ Below w.heap.size w w'

theorem two_pow_succ (d : Nat) : (2 : Nat) ^ (d + 1) = 2 ^ d + 2 ^ d := by rw [Nat.pow_succ]; omega
theorem bit_below {s d : Nat} (h : s < 2 ^ d) : s.testBit d = false := Nat.testBit_lt_two_pow h
theorem with_below {s d : Nat} (h : s < 2 ^ d) : withN s (d : Int) < 2 ^ (d + 1) := by
  unfold withN
  have h2 := two_pow_succ d
  split
  · exact Nat.or_lt_two_pow (by omega) (by rw [Int.toNat_natCast]; have := Nat.two_pow_pos d; omega)
  · omega

theorem cust_lies {w : World} {g : Nat} {kd dm : Int} {pt : Value} {rt sz st ru hd : Int} (h : IsCust w g kd dm pt rt sz st ru hd) : Lies w g [.int .i64 kd, .int .i64 dm, pt, .int .i64 rt, .int .i64 sz, .int .i64 st, .int .i64 ru, .int .i64 hd] := by
  intro j u hj
  have hl : j < 8 := (List.getElem?_eq_some_iff.1 hj).1
  match j, hl with
  | 0, _ => cases hj; exact h.c0
  | 1, _ => cases hj; exact h.c1
  | 2, _ => cases hj; exact h.c2
  | 3, _ => cases hj; exact h.c3
  | 4, _ => cases hj; exact h.c4
  | 5, _ => cases hj; exact h.c5
  | 6, _ => cases hj; exact h.c6
  | 7, _ => cases hj; exact h.c7

set_option maxRecDepth 100000 in
set_option maxHeartbeats 1600000 in
theorem goodTank_is (C : Cu) (pv : Value) (days : Nat) (w : World) (h0 : (Lit.int .i64 C.kd).wf = true) (h3 : (Lit.int .i64 C.rt).wf = true) (h4 : (Lit.int .i64 C.sz).wf = true) (h5 : (Lit.int .i64 C.st).wf = true) (h6 : (Lit.int .i64 C.ru).wf = true) (h7 : (Lit.int .i64 C.hd).wf = true) (hk : C.kd.tmod 2 = 0) :
    Calls Tryz.prog 25 #[.agg #[.int .i64 C.kd, .int .i64 C.dm, pv, .int .i64 C.rt, .int .i64 C.sz, .int .i64 C.st, .int .i64 C.ru, .int .i64 C.hd], .int .i64 days] w (GoodOut days w) := by
  obtain ⟨kd, dm, ps, rt, sz, st, ru, hd⟩ := C
  simp only at *
  obtain ⟨w1, ew, hb1, hsz1, hcu⟩ := box_cust w kd dm pv rt sz st ru hd
  obtain ⟨w2, ew2, hb2, hsz2, hcu2⟩ := box_cust w1 0 0 (.slice none 0 0) 0 0 0 0 0
  have hcu := hcu.below hb2
  have hk' : (kd.tmod 2 == 0) = true := by simpa using hk
  have Hew := Lib.hid ew
  have Hew2 := Lib.hid ew2
  have l0 := hcu.lt
  obtain ⟨c0, c1, c2, c3, c4, c5, c6, c7⟩ := hcu
  rw [hsz1] at hcu2
  have l1 := hcu2.lt
  have HL : Hid (Lies w2 (w.heap.size + 1) [.int .i64 0, .int .i64 0, .slice none 0 0, .int .i64 0, .int .i64 0, .int .i64 0, .int .i64 0, .int .i64 0]) := Lib.hid (cust_lies hcu2)
  obtain ⟨d0, d1, d2, d3, d4, d5, d6, d7⟩ := hcu2
  have hb := Lib.hid (hb1.trans (hb2.mono hb1.size))
  have hF : Hid (∀ j, w2.frozen? ⟨w.heap.size + 1, j, none⟩ = false) := Lib.hid (fun j => by rw [← ew2, ← hsz1]; simp [go_sem])
  have f0 := hF.out 0
  have f1 := hF.out 1
  have f2 := hF.out 2
  have f3 := hF.out 3
  have f4 := hF.out 4
  have f5 := hF.out 5
  have f6 := hF.out 6
  have f7 := hF.out 7
  have Hsz2 := Lib.hid (show w2.heap.size = w.heap.size + 1 + 1 by omega)
  clear ew ew2 hk hsz1 hsz2 hb1 hb2
  go_enter Tryz.func25, Tryz.ntmps25
  go_upto_region 1 with (fail)
  rw [Hew.out, Hew2.out]
  generalize eg : w.heap.size = g at *
  have Heg := Lib.hid eg
  clear eg
  go_wp2_with fail
  go_region_held3 (fun w' => w'.cell? ⟨g, 3, none⟩ = some (.int .i64 rt) ∧ w'.cell? ⟨g, 4, none⟩ = some (.int .i64 sz) ∧ w'.cell? ⟨g, 6, none⟩ = some (.int .i64 ru) ∧ w'.cell? ⟨g, 7, none⟩ = some (.int .i64 hd)) (go_keep)
    (first | (go_at_call 24; refine (round06_is _ _ _ _ ?_ ?_ ?_ ?_).mono ?_; assumption; decide; decide; decide; rintro e w' ⟨rfl, rfl⟩))
  all_goals
    have hbd := rnd_bd sz 1 30 (by decide)
    obtain ⟨hbd1, hbd2⟩ := hbd
    go_wp2_with fail
    refine (round06_is st 0 (rnd sz 1 30) _ h5 (by decide) (by omega) (by omega)).mono ?_
    rintro e w' ⟨rfl, rfl⟩
    go_wp2_with fail
    have q := set8 HL.out (.int .i64 2) (.int .i64 0) (.slice none 0 0) (.int .i64 (rnd rt 0 9)) (.int .i64 (rnd sz 1 30)) (.int .i64 (rnd st 0 (rnd sz 1 30))) (.int .i64 (rnd ru 1 2)) (.int .i64 (rnd hd 0 4))
    have q0 := q.at 0 _ rfl
    have q1 := q.at 1 _ rfl
    have q2 := q.at 2 _ rfl
    have q3 := q.at 3 _ rfl
    have q4 := q.at 4 _ rfl
    have q5 := q.at 5 _ rfl
    have q6 := q.at 6 _ rfl
    have q7 := q.at 7 _ rfl
    have r1 := rnd_bd rt 0 9 (by decide)
    have r2 := rnd_bd st 0 (rnd sz 1 30) (by omega)
    have r3 := rnd_bd ru 1 2 (by decide)
    have r4 := rnd_bd hd 0 4 (by decide)
    refine bodyPost_ret (v := .agg #[.int .i64 2, .int .i64 0, .slice none 0 0, .int .i64 (rnd rt 0 9), .int .i64 (rnd sz 1 30), .int .i64 (rnd st 0 (rnd sz 1 30)), .int .i64 (rnd ru 1 2), .int .i64 (rnd hd 0 4)]) (by simp [results, Tryz.results25, go_sem, q0, q1, q2, q3, q4, q5, q6, q7, l1]) rfl
      ⟨⟨2, 0, [], rnd rt 0 9, rnd sz 1 30, rnd st 0 (rnd sz 1 30), rnd ru 1 2, rnd hd 0 4⟩, .slice none 0 0, rfl, .inl ⟨rfl, rfl, rfl, by simp; omega, by simp; omega, by simp; omega, by simp; omega, by simp; omega, by simp; omega, by simp; omega, by simp; omega, by simp; omega⟩, OwnW.nil _ _, ?_⟩
    rw [Heg.out]
    refine hb.out.trans ?_
    refine Below.drew (Below.alloc ?_ (by simp; omega) _)
    repeat (refine Below.setCell ?_ (by simp) _)
    exact Below.refl _ _
end

section
open Go.RowKit
set_option linter.unusedVariables false
set_option maxRecDepth 100000

theorem lies_cells {w : World} {g : Nat} {v0 v1 v2 v3 v4 v5 v6 v7 : Value} (h : Lies w g [v0, v1, v2, v3, v4, v5, v6, v7]) :
    w.cell? ⟨g, 0, none⟩ = some v0 ∧ w.cell? ⟨g, 1, none⟩ = some v1 ∧ w.cell? ⟨g, 2, none⟩ = some v2 ∧ w.cell? ⟨g, 3, none⟩ = some v3 ∧ w.cell? ⟨g, 4, none⟩ = some v4 ∧ w.cell? ⟨g, 5, none⟩ = some v5 ∧ w.cell? ⟨g, 6, none⟩ = some v6 ∧ w.cell? ⟨g, 7, none⟩ = some v7 :=
  ⟨h.at 0 _ rfl, h.at 1 _ rfl, h.at 2 _ rfl, h.at 3 _ rfl, h.at 4 _ rfl, h.at 5 _ rfl, h.at 6 _ rfl, h.at 7 _ rfl⟩
theorem frozen_below {w w' : World} (hb : Below w.heap.size w w') {b o : Nat} (hl : b < w.heap.size) (h : w.frozen? ⟨b, o, none⟩ = false) : w'.frozen? ⟨b, o, none⟩ = false := (hb.frozen (p := ⟨b, o, none⟩) hl).trans h
theorem frozen_lt {B : Nat} {w w' : World} (hb : Below B w w') {b o : Nat} (hl : b < B) (h : w.frozen? ⟨b, o, none⟩ = false) : w'.frozen? ⟨b, o, none⟩ = false := (hb.frozen (p := ⟨b, o, none⟩) hl).trans h
theorem frozen_grown {w w' : World} {r : Option Nat} (hg : w.grownBy w' r) {b o : Nat} (hl : b < w.heap.size) (hne : some b ≠ r) (h : w.frozen? ⟨b, o, none⟩ = false) : w'.frozen? ⟨b, o, none⟩ = false := (hg.frozen_far ⟨b, o, none⟩ hl hne).trans h

/-- The customer that good makes of a periodic one stands in block h. -/
structure GoodSt (h days k : Nat) (DM : Int) (v : Value) (xs : List Nat) (w2 wr : World) : Prop where
  len : xs.length = k
  lt : ∀ x ∈ xs, x < 2 ^ days
  lies : Lies wr h [.int .i64 1, .int .i64 DM, v, .int .i64 0, .int .i64 0, .int .i64 0, .int .i64 0, .int .i64 0]
  free : wr.frozen? ⟨h, 2, none⟩ = false
  own : OwnW wr (h + 1) v xs
  below : Below h w2 wr

set_option maxRecDepth 100000 in
set_option maxHeartbeats 3200000 in
theorem goodPer_is (C : Cu) (pv : Value) (days : Nat) (w : World) (h1 : (Lit.int .i64 C.dm).wf = true) (hk : C.kd.tmod 2 ≠ 0) (hp : Words w pv C.ps) (hlw : ∀ x ∈ C.ps, x < 18446744073709551616) (hdays : 1 ≤ days) (hdays2 : days ≤ 7) :
    Calls Tryz.prog 25 #[.agg #[.int .i64 C.kd, .int .i64 C.dm, pv, .int .i64 C.rt, .int .i64 C.sz, .int .i64 C.st, .int .i64 C.ru, .int .i64 C.hd], .int .i64 days] w (GoodOut days w) := by
  obtain ⟨kd, dm, ps, rt, sz, st, ru, hd⟩ := C
  simp only at *
  obtain ⟨w1, ew, hb1, hsz1, hcu⟩ := box_cust w kd dm pv rt sz st ru hd
  obtain ⟨w2, ew2, hb2, hsz2, hcu2⟩ := box_cust w1 0 0 (.slice none 0 0) 0 0 0 0 0
  obtain ⟨w3, ew3, hb3, hsz3, hcu3⟩ := box_cust w2 1 (rnd dm 1 15) (.slice none 0 0) 0 0 0 0 0
  have hbd := rnd_bd dm 1 15 (by decide)
  have Hround := Lib.hid (fun w => round06_is dm 1 15 w h1 (by decide) (by decide) (by decide))
  obtain ⟨DM, hDM⟩ : ∃ DM, DM = rnd dm 1 15 := ⟨_, rfl⟩
  rw [← hDM] at ew3 hcu3 hbd Hround
  have hcu := hcu.below hb2
  have hk' : (kd.tmod 2 == 0) = false := by simpa using hk
  obtain ⟨a, n, c, rfl, hn, hnc, hcm, hcell⟩ := ((hp.below hb1).below hb2).open
  have Hn := Lib.hid hn
  have Hcell := Lib.hid hcell
  have Hlw := Lib.hid hlw
  have Hew := Lib.hid ew
  have Hew2 := Lib.hid ew2
  have Hew3 := Lib.hid ew3
  rw [hsz1] at hcu2
  have HL2 : Hid (Lies w2 (w.heap.size + 1) [.int .i64 0, .int .i64 0, .slice none 0 0, .int .i64 0, .int .i64 0, .int .i64 0, .int .i64 0, .int .i64 0]) := Lib.hid (cust_lies hcu2)
  have HF2 : Hid (∀ j, w2.frozen? ⟨w.heap.size + 1, j, none⟩ = false) := Lib.hid (fun j => by rw [← ew2, ← hsz1]; simp [go_sem])
  have hf3 : w3.frozen? ⟨w2.heap.size, 2, none⟩ = false := by rw [← ew3]; simp [go_sem]
  have HS0 : Hid (GoodSt w2.heap.size days 0 DM (.slice none 0 0) [] w2 w3) := Lib.hid ⟨rfl, by simp, cust_lies hcu3, hf3, OwnW.nil _ _, hb3⟩
  have hb := Lib.hid (hb1.trans (hb2.mono hb1.size))
  have c0 := hcu.c0
  have c1 := hcu.c1
  have c2 := hcu.c2
  have l0 := hcu.lt
  have l1 := hcu2.lt
  have hh : w.heap.size + 1 < w2.heap.size := by omega
  clear ew ew2 ew3 hk hn hcell hlw hp hsz1 hsz2 hsz3 hb1 hb2 hb3 hcu hcu2 hcu3 hf3 hDM
  go_enter Tryz.func25, Tryz.ntmps25
  go_upto_region 1 with (fail)
  rw [Hew.out, Hew2.out]
  generalize eg : w.heap.size = g at *
  have Heg := Lib.hid eg
  clear eg
  go_wp2_with fail
  refine (Hround.out _).mono ?_
  rintro e w' ⟨rfl, rfl⟩
  go_upto_region 6 with (fail)
  rw [Hew3.out]
  generalize eh : w2.heap.size = tb at *
  have Heh := Lib.hid eh
  clear eh
  go_wp2_with fail
  go_loopw [7, 8, 9] (fun i p d wr => ∃ (k : Nat) (v pu du : Value) (xs : List Nat), i = .int .i64 k ∧ pu = p ∧ du = d ∧ k ≤ n ∧ k ≤ 4 ∧ GoodSt tb days k DM v xs w2 wr) (fun i _ _ _ => 4 - (intOf i).toNat)
  case atStart => exact ⟨0, _, _, _, [], rfl, rfl, rfl, Nat.zero_le _, by omega, HS0.out⟩
  case round =>
    obtain ⟨k, v, pu, du, xs, rfl, rfl, rfl, hkn, hk4, hs⟩ := hrel
    have Hs := Lib.hid hs
    have Hk4 := Lib.hid hk4
    obtain ⟨e0, e1, e2, e3, e4, e5, e6, e7⟩ := lies_cells hs.lies
    have e8 := hs.free
    have c2' := cell_lt hs.below l0 c2
    have lh := hs.lies.lt
    clear hs
    by_cases hgo : k < n ∧ k < 4
    · obtain ⟨g1, g2⟩ := hgo
      have hX := Lib.hid (Hlw.out (nthN ps k) (nthN_mem (by rw [Hn.out]; exact g1)))
      obtain ⟨b, o, rfl, hbl, hcx⟩ := Hcell.out k g1

      have hcx' := cell_lt Hs.out.below hbl hcx
      have hi0 : (0 : Int) ≤ (k : Int) := by omega
      have hi1 : (k : Int) < (n : Int) := by omega
      have hi4 : (k : Int) < 4 := by omega
      generalize nthN ps k = X at *
      clear hcx
      obtain ⟨wo, rfl⟩ : ∃ wo : World, wo = wr := ⟨_, rfl⟩
      go_wp2_with fail
      go_loopw [8, 9] (fun p d wr => ∃ (j P : Nat), d = .int .i64 j ∧ p = .int .u64 (P : Int) ∧ j ≤ days ∧ P < 2 ^ j ∧ Below wo.heap.size wo wr) (fun _ d _ => days - (intOf d).toNat)
      case atStart => exact ⟨0, 0, rfl, rfl, Nat.zero_le _, by simp, Below.refl _ _⟩
      case round =>
        obtain ⟨j, P, rfl, rfl, hj, hP, hbq⟩ := hrel
        have HP := Lib.hid hP
        clear hP
        by_cases hlt : j < days
        · have hP64 : Hid (P < 18446744073709551616) := Lib.hid (Nat.lt_of_lt_of_le HP.out (Nat.le_trans (Nat.pow_le_pow_right (by decide) (show j ≤ 7 by omega)) (by decide)))
          have cxq := cell_below hbq hcx'
          have c2q := cell_below hbq c2'
          have hj0 : (j : Int) < (days : Int) := by omega
          go_wp2_with fail
          refine (refHas_is X j _ hX.out).mono ?_
          rintro e wz ⟨rfl, hbz⟩
          have hbz2 := hbq.trans (hbz.mono hbq.size)
          cases hbit : hasB X j with
          | true =>
            clear hbit cxq c2q hbq hbz
            go_wp2_with fail
            refine (put_is P j 1 _ hP64.out (.inr rfl)).mono ?_
            rintro e wy ⟨rfl, hby⟩
            have hby2 := hbz2.trans (hby.mono hbz2.size)
            clear hby hbz2
            go_wp2_with fail
            go_roundw
            case rel => exact ⟨j + 1, putN P j 1, by go_num, rfl, by omega, by unfold putN; rw [if_pos rfl]; exact with_below HP.out, hby2⟩
            case measure => simp [intOf]; omega
          | false =>
            clear hbit cxq c2q hbq hbz
            go_wp2_with fail
            go_roundw
            case rel => exact ⟨j + 1, P, by go_num, rfl, by omega, by have := two_pow_succ j; have := HP.out; omega, hbz2⟩
            case measure => simp [intOf]; omega
        · have hjd : j = days := by omega
          subst hjd
          have hlq := Lib.hid (Hs.out.lies.below hbq)
          have hoq := Lib.hid (Hs.out.own.below hbq)
          have hbq2 := Lib.hid (Hs.out.below.trans (hbq.mono (by omega)))
          have e2q := cell_below hbq e2
          have e8q := frozen_below hbq lh e8
          have lhq : tb + 1 ≤ wr.heap.size := by have := hbq.size; omega
          have hlen : Hid (xs.length + 1 ≤ 1000000000000) := Lib.hid (by rw [Hs.out.len]; omega)
          clear hbq
          go_wp2_with (at_builtin; refine wpList_pushW rfl _ _ rfl wr (tb + 1) v xs P rfl rfl hoq.out hlen.out lhq ?_)
          intro g5 c5 w5 hown5 hg5 hb5 hg5a hg5b
          have hl5 := Lib.hid (hlq.out.kept hg5 (hoq.out.not' (Nat.lt_succ_self tb)))
          have e25 := hl5.out.at 2 _ rfl
          have e85 := frozen_grown hg5 (by omega) (hoq.out.not' (Nat.lt_succ_self tb)) e8q
          have Ho5 := Lib.hid hown5
          have hb5' := Lib.hid (hbq2.out.trans (hb5.mono (by omega)))
          clear hown5 hg5 hb5 e2q e8q
          go_wp2_with fail
          go_roundw
          case rel =>
            refine ⟨k + 1, _, _, _, xs ++ [P], by go_num, rfl, rfl, by omega, by omega, ⟨by simp [Hs.out.len], ?_, hl5.out.set 2 _ (by simp), by rw [World.frozen?_setCell]; exact e85, ?_, hb5'.out.setCell (p := ⟨tb, 2, none⟩) (Nat.le_refl _) _⟩⟩
            · intro x hx
              rcases List.mem_append.1 hx with hx | hx
              · exact Hs.out.lt x hx
              · simp at hx; subst hx; exact HP.out
            · exact Ho5.out.kept (grownBy_setCell w5 ⟨tb, 2, none⟩ _) (Ho5.out.not (Nat.lt_succ_self tb))
          case measure => simp [intOf]; omega
    · have hLg := Lib.hid (HL2.out.lower Hs.out.below hh)
      obtain ⟨d0, d1, d2, d3, d4, d5, d6, d7⟩ := lies_cells hLg.out
      have f0 := frozen_lt Hs.out.below hh (HF2.out 0)
      have f1 := frozen_lt Hs.out.below hh (HF2.out 1)
      have f2 := frozen_lt Hs.out.below hh (HF2.out 2)
      have f3 := frozen_lt Hs.out.below hh (HF2.out 3)
      have f4 := frozen_lt Hs.out.below hh (HF2.out 4)
      have f5 := frozen_lt Hs.out.below hh (HF2.out 5)
      have f6 := frozen_lt Hs.out.below hh (HF2.out 6)
      have f7 := frozen_lt Hs.out.below hh (HF2.out 7)
      obtain ⟨va, vn, vc, rfl, hvn, _, _, _⟩ := Hs.out.own.words.open
      have hvk : vn = k := by rw [← hvn]; exact Hs.out.len
      subst hvk
      clear hvn
      have hgo2 : (decide (vn < n) = false) ∨ (decide (vn < n) = true ∧ decide ((vn : Int) < 4) = false) := by
        by_cases q : vn < n
        · exact .inr ⟨by simpa using q, by simp; omega⟩
        · exact .inl (by simpa using q)
      clear hgo hkn hk4
      by_cases hk0 : vn = 0
      · have hk0' : ((vn : Int) == 0) = true := by simpa using hk0
        have hxs : xs = [] := List.length_eq_zero_iff.1 (Hs.out.len.trans hk0)
        have hl5' := Hs.out.lies
        have hown0 := Hs.out.own
        have hb0 := Hs.out.below
        have lhq : tb + 1 ≤ wr.heap.size := by omega
        subst hxs
        clear Hs hk0
        have Hl0 := Lib.hid hl5'
        have Hown0 := Lib.hid hown0
        have Hb0 := Lib.hid hb0
        clear hl5' hown0 hb0
        rcases hgo2 with q1 | ⟨q1, q2⟩
        all_goals
          go_wp2_with (at_builtin; refine wpList_pushW rfl _ _ rfl wr (tb + 1) (.slice va vn vc) [] 1 rfl rfl Hown0.out (by simp) lhq ?_)
          intro g5 c5 w5 hown5 hg5 hb5 hg5a hg5b
          have hl5 := Lib.hid (Hl0.out.kept hg5 (Hown0.out.not' (Nat.lt_succ_self tb)))
          have hd5 := Lib.hid (hLg.out.kept hg5 (Hown0.out.not' (by omega)))
          have e85 := frozen_grown hg5 (by omega) (Hown0.out.not' (Nat.lt_succ_self tb)) e8
          have f05 := frozen_grown hg5 (by omega) (Hown0.out.not' (by omega)) f0
          have f15 := frozen_grown hg5 (by omega) (Hown0.out.not' (by omega)) f1
          have f25 := frozen_grown hg5 (by omega) (Hown0.out.not' (by omega)) f2
          have f35 := frozen_grown hg5 (by omega) (Hown0.out.not' (by omega)) f3
          have f45 := frozen_grown hg5 (by omega) (Hown0.out.not' (by omega)) f4
          have f55 := frozen_grown hg5 (by omega) (Hown0.out.not' (by omega)) f5
          have f65 := frozen_grown hg5 (by omega) (Hown0.out.not' (by omega)) f6
          have f75 := frozen_grown hg5 (by omega) (Hown0.out.not' (by omega)) f7
          have Ho5 := Lib.hid hown5
          have hb5' := Lib.hid (Hb0.out.trans (hb5.mono (by omega)))
          clear hown5 hg5 hb5 e0 e1 e2 e3 e4 e5 e6 e7 e8 d0 d1 d2 d3 d4 d5 d6 d7 f0 f1 f2 f3 f4 f5 f6 f7 c2'
          obtain ⟨e0, e1, e2, e3, e4, e5, e6, e7⟩ := lies_cells hl5.out
          obtain ⟨d0, d1, d2, d3, d4, d5, d6, d7⟩ := lies_cells hd5.out
          go_wp2_with fail
          have q := set8 (hd5.out.other ⟨tb, 2, none⟩ (.slice (some ⟨g5, 0, none⟩) (([] : List Nat).length + 1) c5) (by simp; omega)) (.int .i64 1) (.int .i64 DM) (.slice (some ⟨g5, 0, none⟩) (([] : List Nat).length + 1) c5) (.int .i64 0) (.int .i64 0) (.int .i64 0) (.int .i64 0) (.int .i64 0)
          have q0 := q.at 0 _ rfl
          have q1 := q.at 1 _ rfl
          have q2 := q.at 2 _ rfl
          have q3 := q.at 3 _ rfl
          have q4 := q.at 4 _ rfl
          have q5 := q.at 5 _ rfl
          have q6 := q.at 6 _ rfl
          have q7 := q.at 7 _ rfl
          simp only [List.length_nil, Nat.zero_add] at q0 q1 q2 q3 q4 q5 q6 q7
          refine bodyPost_ret (v := .agg #[.int .i64 1, .int .i64 DM, .slice (some ⟨g5, 0, none⟩) 1 c5, .int .i64 0, .int .i64 0, .int .i64 0, .int .i64 0, .int .i64 0]) (by simp [results, Tryz.results25, go_sem, q0, q1, q2, q3, q4, q5, q6, q7]) rfl
            ⟨⟨1, DM, [1], 0, 0, 0, 0, 0⟩, _, rfl, .inr ⟨rfl, hbd.1, hbd.2, rfl, rfl, rfl, rfl, rfl, by simp, by simp, ?_⟩, ?_, ?_⟩
          · intro p hp
            simp at hp
            subst hp
            have := Nat.pow_le_pow_right (show 0 < 2 by decide) hdays
            omega
          · rw [Heg.out]
            have o1 := Ho5.out.kept (grownBy_setCell w5 ⟨tb, 2, none⟩ (.slice (some ⟨g5, 0, none⟩) (([] : List Nat).length + 1) c5)) (Ho5.out.not (Nat.lt_succ_self tb))
            exact OwnW.mono (o1.kept (grown8 _ _ _ _ _ _ _ _ _ _) (o1.not (by omega))) (by omega)
          · rw [Heg.out]
            have o2 := hb5'.out.setCell (p := ⟨tb, 2, none⟩) (Nat.le_refl _) (.slice (some ⟨g5, 0, none⟩) (([] : List Nat).length + 1) c5)
            exact hb.out.trans ((o2.mono (by omega)).trans (below8 _ _ _ _ _ _ _ _ _ _ (by omega)))
      · have hk0' : ((vn : Int) == 0) = false := by simpa using hk0
        have Hk0 := Lib.hid hk0
        clear hk0
        rcases hgo2 with q1 | ⟨q1, q2⟩
        all_goals
          go_wp2_with fail
          have q := set8 hLg.out (.int .i64 1) (.int .i64 DM) (.slice va vn vc) (.int .i64 0) (.int .i64 0) (.int .i64 0) (.int .i64 0) (.int .i64 0)
          have q0 := q.at 0 _ rfl
          have q1 := q.at 1 _ rfl
          have q2 := q.at 2 _ rfl
          have q3 := q.at 3 _ rfl
          have q4 := q.at 4 _ rfl
          have q5 := q.at 5 _ rfl
          have q6 := q.at 6 _ rfl
          have q7 := q.at 7 _ rfl
          refine bodyPost_ret (v := .agg #[.int .i64 1, .int .i64 DM, .slice va vn vc, .int .i64 0, .int .i64 0, .int .i64 0, .int .i64 0, .int .i64 0]) (by simp [results, Tryz.results25, go_sem, q0, q1, q2, q3, q4, q5, q6, q7]) rfl
            ⟨⟨1, DM, xs, 0, 0, 0, 0, 0⟩, .slice va vn vc, rfl, .inr ⟨rfl, hbd.1, hbd.2, rfl, rfl, rfl, rfl, rfl, ?_, ?_, Hs.out.lt⟩, ?_, ?_⟩
          · have := Hs.out.len; have := Hk0.out; simp; omega
          · have := Hs.out.len; have := Hk4.out; simp; omega
          · rw [Heg.out]
            exact OwnW.mono (Hs.out.own.kept (grown8 _ _ _ _ _ _ _ _ _ _) (Hs.out.own.not (by omega))) (by omega)
          · rw [Heg.out]
            exact hb.out.trans ((Hs.out.below.mono (by omega)).trans (below8 _ _ _ _ _ _ _ _ _ _ (by omega)))
end

section
open Go.RowKit
set_option linter.unusedVariables false
set_option maxRecDepth 100000

/-- The k-th row (empty beyond the end): no rule of simp opens it. -/
def nthL (D : List (List Int)) (k : Nat) : List Int := D.getD k []
theorem nthL_lt {D : List (List Int)} {k : Nat} (h : k < D.length) : nthL D k = D[k] := by simp [nthL, h]
theorem nthL_ge {D : List (List Int)} {k : Nat} (h : D.length ≤ k) : nthL D k = [] := by simp [nthL, h]
theorem nth_ge {xs : List Int} {k : Nat} (h : xs.length ≤ k) : nth xs k = 0 := by simp [nth, h]
theorem nthL_append_left {D E : List (List Int)} {k : Nat} (h : k < D.length) : nthL (D ++ E) k = nthL D k := by simp [nthL, List.getElem?_append, h]
theorem nthL_append_here {D : List (List Int)} {y : List Int} : nthL (D ++ [y]) D.length = y := by simp [nthL]

/-- The slice value v reads as the rows D. -/
def Grid (w : World) (v : Value) (D : List (List Int)) : Prop :=
  ∃ (a : Option Addr) (c : Nat), v = .slice a D.length c ∧ D.length ≤ c ∧ c ≤ 9223372036854775807 ∧ ∀ i, i < D.length → ∃ b o rv, a = some ⟨b, o, none⟩ ∧ w.cell? ⟨b, o + i, none⟩ = some rv ∧ Ints w rv (nthL D i)
theorem Grid.nil (w : World) : Grid w (.slice none 0 0) [] := ⟨none, 0, rfl, by simp, by simp, fun i hi => absurd hi (by simp)⟩
theorem Grid.below {w w' : World} {v : Value} {D : List (List Int)} (h : Grid w v D) (hb : Below w.heap.size w w') : Grid w' v D := by
  obtain ⟨a, c, hv, h1, h2, hc⟩ := h
  refine ⟨a, c, hv, h1, h2, fun i hi => ?_⟩
  obtain ⟨b, o, rv, ha, h0, hr⟩ := hc i hi
  exact ⟨b, o, rv, ha, (hb.cell (p := ⟨b, o + i, none⟩) (World.block_lt_of_cell? w _ h0)).trans h0, hr.below hb⟩
theorem Grid.open {w : World} {v : Value} {D : List (List Int)} (h : Grid w v D) :
    ∃ (a : Option Addr) (n c : Nat), v = .slice a n c ∧ D.length = n ∧ n ≤ 9223372036854775807 ∧
      ∀ i, i < n → ∃ b o ra rn rc, a = some ⟨b, o, none⟩ ∧ b < w.heap.size ∧ w.cell? ⟨b, o + i, none⟩ = some (.slice ra rn rc) ∧ (nthL D i).length = rn ∧ rn ≤ 9223372036854775807 ∧
        ∀ k, k < rn → ∃ b' o', ra = some ⟨b', o', none⟩ ∧ b' < w.heap.size ∧ w.cell? ⟨b', o' + k, none⟩ = some (.int .i64 (nth (nthL D i) k)) := by
  obtain ⟨a, c, rfl, h1, h2, hc⟩ := h
  refine ⟨a, D.length, c, rfl, rfl, by omega, fun i hi => ?_⟩
  obtain ⟨b, o, rv, ha, h0, hr⟩ := hc i hi
  obtain ⟨ra, rn, rc, rfl, e1, e2, e3⟩ := hr.open
  refine ⟨b, o, ra, rn, rc, ha, World.block_lt_of_cell? w _ h0, h0, e1, e2, fun k hk => ?_⟩
  obtain ⟨b', o', g1, g2⟩ := e3 k hk
  exact ⟨b', o', g1, World.block_lt_of_cell? w _ g2, g2⟩

/-- The arc from a to b (0 where one is not there). -/
def arcI (D : List (List Int)) (a b : Int) : Int := if 0 ≤ a ∧ 0 ≤ b then nth (nthL D a.toNat) b.toNat else 0
theorem arc_nat (D : List (List Int)) (a b : Nat) : arcI D a b = nth (nthL D a) b := by
  unfold arcI; rw [if_pos (by omega), Int.toNat_natCast, Int.toNat_natCast]
theorem arc_neg (D : List (List Int)) (a b : Int) (h : a < 0 ∨ b < 0) : arcI D a b = 0 := by unfold arcI; rw [if_neg (by omega)]

/-- An instance lies in block g. -/
structure IsInst (w : World) (g : Nat) (f0 f1 f2 f3 cs dv : Value) : Prop where
  c0 : w.cell? ⟨g, 0, none⟩ = some f0
  c1 : w.cell? ⟨g, 1, none⟩ = some f1
  c2 : w.cell? ⟨g, 2, none⟩ = some f2
  c3 : w.cell? ⟨g, 3, none⟩ = some f3
  c4 : w.cell? ⟨g, 4, none⟩ = some cs
  c5 : w.cell? ⟨g, 5, none⟩ = some dv
theorem IsInst.lt {w : World} {g : Nat} {f0 f1 f2 f3 cs dv : Value} (h : IsInst w g f0 f1 f2 f3 cs dv) : g < w.heap.size := World.block_lt_of_cell? w _ h.c0
theorem IsInst.kept {w w' : World} {g : Nat} {f0 f1 f2 f3 cs dv : Value} {row : Option Nat} (h : IsInst w g f0 f1 f2 f3 cs dv) (hg : w.grownBy w' row) (hne : some g ≠ row) : IsInst w' g f0 f1 f2 f3 cs dv :=
  ⟨hg.cell h.c0 hne, hg.cell h.c1 hne, hg.cell h.c2 hne, hg.cell h.c3 hne, hg.cell h.c4 hne, hg.cell h.c5 hne⟩
theorem IsInst.below {w w' : World} {g : Nat} {f0 f1 f2 f3 cs dv : Value} (h : IsInst w g f0 f1 f2 f3 cs dv) (hb : Below w.heap.size w w') : IsInst w' g f0 f1 f2 f3 cs dv :=
  h.kept (row := none) (grownBy_below hb) (by simp)
theorem box_inst (w : World) (f0 f1 f2 f3 cs dv : Value) :
    ∃ w1, w.alloc (.cells #[f0, f1, f2, f3, cs, dv] 25) = w1 ∧ Below w.heap.size w w1 ∧ w1.heap.size = w.heap.size + 1 ∧ IsInst w1 w.heap.size f0 f1 f2 f3 cs dv :=
  ⟨_, rfl, (Below.refl _ _).alloc (Nat.le_refl _) _, by simp, ⟨by simp [go_sem], by simp [go_sem], by simp [go_sem], by simp [go_sem], by simp [go_sem], by simp [go_sem]⟩⟩

set_option maxHeartbeats 1600000 in
theorem arc_is (i0 i1 i2 i3 : Int) (cs dv : Value) (D : List (List Int)) (a b : Int) (w : World) (h : Grid w dv D) :
    Calls Tryz.prog 64 #[.agg #[.int .i64 i0, .int .i64 i1, .int .i64 i2, .int .i64 i3, cs, dv], .int .i64 a, .int .i64 b] w fun e w' => e = .returned (.int .i64 (arcI D a b)) ∧ Below w.heap.size w w' := by
  obtain ⟨w1, ew, hb1, hsz1, hi⟩ := box_inst w (.int .i64 i0) (.int .i64 i1) (.int .i64 i2) (.int .i64 i3) cs dv
  obtain ⟨da, n, c, rfl, hn, hmax, hcell⟩ := (h.below hb1).open
  have Hew := Lib.hid ew
  have Hn := Lib.hid hn
  have Hcell := Lib.hid hcell
  have c5 := hi.c5
  clear ew hn hcell h hi hsz1
  by_cases ha : a < 0
  · have ha' : decide (a < 0) = true := by simpa using ha
    have Hr := Lib.hid (arc_neg D a b (.inl ha))
    clear ha
    go_enter Tryz.func64, Tryz.ntmps64
    go_upto_region 1 with (fail)
    rw [Hew.out]
    go_wp2_with fail
    go_ret
    rw [Hr.out]
    exact ⟨rfl, hb1⟩
  obtain ⟨i, rfl⟩ := Int.eq_ofNat_of_zero_le (show 0 ≤ a by omega)
  by_cases hin : n ≤ i
  · have Hr : Hid (arcI D (i : Int) b = 0) := Lib.hid (by
      unfold arcI
      split
      · rw [Int.toNat_natCast, nthL_ge (by rw [Hn.out]; exact hin)]; rfl
      · rfl)
    have ha' : decide ((i : Int) < 0) = false := by simp
    have hin' : decide (n ≤ i) = true := by simpa using hin
    clear ha
    go_enter Tryz.func64, Tryz.ntmps64
    go_upto_region 1 with (fail)
    rw [Hew.out]
    go_wp2_with fail
    go_ret
    rw [Hr.out]
    exact ⟨rfl, hb1⟩
  obtain ⟨db, o, ra, rn, rc, rfl, hdb, hc1, hrn, hrm, hrc⟩ := Hcell.out i (by omega)
  have hin' : decide (n ≤ i) = false := by simpa using hin
  have ha' : decide ((i : Int) < 0) = false := by simp
  have hi0 : (0 : Int) ≤ (i : Int) := by omega
  have hi1 : (i : Int) < (n : Int) := by omega
  have Hrn := Lib.hid hrn
  have Hrc := Lib.hid hrc
  clear hin ha hrn hrc
  by_cases hb : b < 0
  · have hb' : decide (b < 0) = true := by simpa using hb
    have Hr := Lib.hid (arc_neg D i b (.inr hb))
    clear hb
    go_enter Tryz.func64, Tryz.ntmps64
    go_upto_region 1 with (fail)
    rw [Hew.out]
    go_wp2_with fail
    go_ret
    rw [Hr.out]
    exact ⟨rfl, hb1⟩
  obtain ⟨k, rfl⟩ := Int.eq_ofNat_of_zero_le (show 0 ≤ b by omega)
  have Hr := Lib.hid (arc_nat D i k)
  have hb' : decide ((k : Int) < 0) = false := by simp
  clear hb
  by_cases hk : rn ≤ k
  · have hk' : decide (rn ≤ k) = true := by simpa using hk
    have Hz : Hid (nth (nthL D i) k = 0) := Lib.hid (nth_ge (by rw [Hrn.out]; exact hk))
    clear hk
    go_enter Tryz.func64, Tryz.ntmps64
    go_upto_region 1 with (fail)
    rw [Hew.out]
    go_wp2_with fail
    go_ret
    rw [Hr.out, Hz.out]
    exact ⟨rfl, hb1⟩
  · obtain ⟨b', o', rfl, hb2, hc2⟩ := Hrc.out k (by omega)
    have hk' : decide (rn ≤ k) = false := by simpa using hk
    have hk0 : (0 : Int) ≤ (k : Int) := by omega
    have hk1 : (k : Int) < (rn : Int) := by omega
    clear hk
    go_enter Tryz.func64, Tryz.ntmps64
    go_upto_region 1 with (fail)
    rw [Hew.out]
    go_wp2_with fail
    go_ret
    rw [Hr.out]
    exact ⟨rfl, hb1⟩

set_option maxHeartbeats 1600000 in
theorem refArc_is (i0 i1 i2 i3 : Int) (cs dv : Value) (D : List (List Int)) (a b : Int) (w : World) (h : Grid w dv D) :
    Calls Tryz.prog 26 #[.agg #[.int .i64 i0, .int .i64 i1, .int .i64 i2, .int .i64 i3, cs, dv], .int .i64 a, .int .i64 b] w fun e w' => e = .returned (.int .i64 (arcI D a b)) ∧ Below w.heap.size w w' := by
  obtain ⟨w1, ew, hb1, hsz1, hi⟩ := box_inst w (.int .i64 i0) (.int .i64 i1) (.int .i64 i2) (.int .i64 i3) cs dv
  obtain ⟨da, n, c, rfl, hn, hmax, hcell⟩ := (h.below hb1).open
  have Hew := Lib.hid ew
  have Hn := Lib.hid hn
  have Hcell := Lib.hid hcell
  have c5 := hi.c5
  clear ew hn hcell h hi hsz1
  by_cases ha : a < 0
  · have ha' : decide (a < 0) = true := by simpa using ha
    have Hr := Lib.hid (arc_neg D a b (.inl ha))
    clear ha
    go_enter Tryz.func26, Tryz.ntmps26
    go_upto_region 1 with (fail)
    rw [Hew.out]
    go_wp2_with fail
    go_ret
    rw [Hr.out]
    exact ⟨rfl, hb1⟩
  obtain ⟨i, rfl⟩ := Int.eq_ofNat_of_zero_le (show 0 ≤ a by omega)
  have ha' : decide ((i : Int) < 0) = false := by simp
  clear ha
  by_cases hb : b < 0
  · have hb' : decide (b < 0) = true := by simpa using hb
    have Hr := Lib.hid (arc_neg D i b (.inr hb))
    clear hb
    go_enter Tryz.func26, Tryz.ntmps26
    go_upto_region 1 with (fail)
    rw [Hew.out]
    go_wp2_with fail
    go_ret
    rw [Hr.out]
    exact ⟨rfl, hb1⟩
  obtain ⟨k, rfl⟩ := Int.eq_ofNat_of_zero_le (show 0 ≤ b by omega)
  have Hr := Lib.hid (arc_nat D i k)
  have hb' : decide ((k : Int) < 0) = false := by simp
  clear hb
  by_cases hin : n ≤ i
  · have Hz : Hid (nth (nthL D i) k = 0) := Lib.hid (by rw [nthL_ge (by rw [Hn.out]; exact hin)]; rfl)
    have hin' : decide (n ≤ i) = true := by simpa using hin
    clear hin
    go_enter Tryz.func26, Tryz.ntmps26
    go_upto_region 1 with (fail)
    rw [Hew.out]
    go_wp2_with fail
    go_ret
    rw [Hr.out, Hz.out]
    exact ⟨rfl, hb1⟩
  obtain ⟨db, o, ra, rn, rc, rfl, hdb, hc1, hrn, hrm, hrc⟩ := Hcell.out i (by omega)
  have hin' : decide (n ≤ i) = false := by simpa using hin
  have hi0 : (0 : Int) ≤ (i : Int) := by omega
  have hi1 : (i : Int) < (n : Int) := by omega
  have Hrn := Lib.hid hrn
  have Hrc := Lib.hid hrc
  clear hin hrn hrc
  by_cases hk : rn ≤ k
  · have hk' : decide (rn ≤ k) = true := by simpa using hk
    have Hz : Hid (nth (nthL D i) k = 0) := Lib.hid (nth_ge (by rw [Hrn.out]; exact hk))
    clear hk
    go_enter Tryz.func26, Tryz.ntmps26
    go_upto_region 1 with (fail)
    rw [Hew.out]
    go_wp2_with fail
    go_ret
    rw [Hr.out, Hz.out]
    exact ⟨rfl, hb1⟩
  · obtain ⟨b', o', rfl, hb2, hc2⟩ := Hrc.out k (by omega)
    have hk' : decide (rn ≤ k) = false := by simpa using hk
    have hk0 : (0 : Int) ≤ (k : Int) := by omega
    have hk1 : (k : Int) < (rn : Int) := by omega
    clear hk
    go_enter Tryz.func26, Tryz.ntmps26
    go_upto_region 1 with (fail)
    rw [Hew.out]
    go_wp2_with fail
    go_ret
    rw [Hr.out]
    exact ⟨rfl, hb1⟩
end

section
open Go.RowKit
set_option linter.unusedVariables false
set_option maxRecDepth 100000

theorem info_ints : (Tryz.prog.info? 26).map (fun i => (i.zero, i.size, i.bytes)) = some (some (.slice none 0 0), 1, 24) := by kernel_rfl

/-- A slice of rows of the call's own; each row, of the call's own too, lies elsewhere. -/
def OwnD (w : World) (B : Nat) (v : Value) (D : List (List Int)) : Prop :=
  ∃ rvs : List Value, rvs.length = D.length ∧ w.ownsRow B 26 1 v D.length rvs ∧ ∀ i, i < D.length → Own w B (rvs.getD i undef) (nthL D i) ∧ ∀ k, v.ownBlock = some k → (rvs.getD i undef).ownBlock ≠ some k
theorem OwnD.nil (w : World) (B : Nat) : OwnD w B (.slice none 0 0) [] := ⟨[], rfl, World.ownsRow_nil _ _ _ _, fun i hi => absurd hi (by simp)⟩
theorem OwnD.lt {w : World} {B : Nat} {v : Value} {D : List (List Int)} (h : OwnD w B v D) : ∀ k, v.ownBlock = some k → B ≤ k ∧ k < w.heap.size := by
  obtain ⟨rvs, _, h, _⟩ := h
  exact World.ownsRow.lt h
theorem OwnD.not' {w : World} {B g : Nat} {v : Value} {D : List (List Int)} (h : OwnD w B v D) (hg : g < B) : some g ≠ v.ownBlock := by
  intro e
  have := h.lt g e.symm
  omega
theorem OwnD.grid {w : World} {B : Nat} {v : Value} {D : List (List Int)} (h : OwnD w B v D) : Grid w v D := by
  obtain ⟨rvs, hl, h, hp⟩ := h
  rcases owns_form h with ⟨rfl, h0⟩ | ⟨g, cap, rfl, h1, h2, _, _⟩
  · rw [List.length_eq_zero_iff.1 h0]; exact Grid.nil w
  · refine ⟨some ⟨g, 0, none⟩, cap, rfl, h1, h2, fun i hi => ⟨g, 0, rvs.getD i undef, rfl, ?_, (hp i hi).1.ints⟩⟩
    obtain ⟨g', hg', hc⟩ := owns_cell h i (rvs.getD i undef) (by simp [List.getD, List.getElem?_eq_getElem (show i < rvs.length by omega)])
    simp only [Value.ownBlock, Option.some.injEq] at hg'
    subst hg'
    rw [Nat.zero_add]
    exact hc
theorem OwnD.kept {w w' : World} {B : Nat} {v : Value} {D : List (List Int)} {r : Option Nat} (h : OwnD w B v D) (hg : w.grownBy w' r) (hr : ∀ k, r = some k → k < B) : OwnD w' B v D := by
  have hlt := h.lt
  obtain ⟨rvs, hl, h, hp⟩ := h
  refine ⟨rvs, hl, World.ownsRow.kept h hg ?_, fun i hi => ⟨(hp i hi).1.kept hg ?_, (hp i hi).2⟩⟩
  · cases hv : v.ownBlock with
    | none => exact .inl rfl
    | some k => exact .inr (fun e => by have := hr k e.symm; have := (hlt k hv).1; omega)
  · cases hv : (rvs.getD i undef).ownBlock with
    | none => exact .inl rfl
    | some k => exact .inr (fun e => by have := hr k e.symm; have := ((hp i hi).1.lt k hv).1; omega)
theorem OwnD.below {w w' : World} {B : Nat} {v : Value} {D : List (List Int)} (h : OwnD w B v D) (hb : Below w.heap.size w w') : OwnD w' B v D := h.kept (r := none) (grownBy_below hb) (by simp)
theorem OwnD.mono {w : World} {B B' : Nat} {v : Value} {D : List (List Int)} (h : OwnD w B v D) (hB : B' ≤ B) : OwnD w B' v D := by
  obtain ⟨rvs, hl, h, hp⟩ := h
  exact ⟨rvs, hl, owns_mono h hB, fun i hi => ⟨(hp i hi).1.mono hB, (hp i hi).2⟩⟩
theorem OwnD.len {w : World} {B : Nat} {a : Option Addr} {n c : Nat} {D : List (List Int)} (h : OwnD w B (.slice a n c) D) : n = D.length := by
  obtain ⟨_, _, h1, _, _⟩ := h.grid
  simp only [Value.slice.injEq] at h1
  exact h1.2.1

/-- 'v = append(v, row)'. The row's value lies in a new block of its own. -/
theorem wpList_pushD {ops : Array Oper} {rest : List Oper} {o : Oper} {a : Act} {Q : Exit → Act → World → Prop} (hgd : o.guard = none) (s x : Operand)
    (ho : o.op = .call { callee := .builtin .append, args := #[s, x], argTypes := #[23, 23] }) (w : World) (B : Nat) (v : Value) (D : List (List Int)) (rv : Value) (r : List Int) (hs : a.eval s = v)
    (hx : a.eval x = .slice (some ⟨w.heap.size, 0, none⟩) 1 1) (hrv : rv.oneCell' = true) (hown : OwnD w B v D) (hr : Own w B rv r) (hne : ∀ k, v.ownBlock = some k → rv.ownBlock ≠ some k) (hlen : D.length + 1 ≤ 1000000000000) (hB : B ≤ w.heap.size)
    (h : ∀ g c w', OwnD w' B (.slice (some ⟨g, 0, none⟩) (D.length + 1) c) (D ++ [r]) → w.grownBy w' v.ownBlock → Below B w w' → B ≤ g → g < w'.heap.size → wpList Tryz.prog ops Q rest (a.put o.dst (.slice (some ⟨g, 0, none⟩) (D.length + 1) c)) w') :
    wpList Tryz.prog ops Q (o :: rest) a (w.alloc (.cells #[rv] 26)) := by
  have hlt := hown.lt
  obtain ⟨rvs, hl, h0, hp⟩ := hown
  have hown' : (w.alloc (.cells #[rv] 26)).ownsRow B 26 1 v D.length rvs := World.ownsRow.alloc h0 _
  refine wpList_pushN hgd s x 23 26 (.slice none 0 0) 1 24 Tryz.underlying23 info_ints rfl (by decide) (by decide) ho _ B v D.length rvs [rv] w.heap.size hs hx (Lies.new w [rv] _) rfl
    (by intro u hu; simp at hu; subst hu; exact hrv) hown' hlen (by simp; omega) ?_
  intro g cap w' h1 h2 h3 h4 h5 h6
  have hg' : w.grownBy w' v.ownBlock := grownBy_trans (World.grownBy_alloc w _ _) h2
  refine h g cap w' ⟨rvs ++ [rv], by simp [hl], by simpa using h1, fun i hi => ?_⟩ hg' ((Below.refl B w).grown hg' hB (fun k hk => (hlt k hk).1)) h5 h6
  have key : ∀ (x : Value) (ps : List Int), Own w B x ps → (∀ k, v.ownBlock = some k → x.ownBlock ≠ some k) → Own w' B x ps ∧ ∀ k, (Value.slice (some ⟨g, 0, none⟩) (D.length + 1) cap).ownBlock = some k → x.ownBlock ≠ some k := by
    intro x ps hx hxn
    refine ⟨hx.kept hg' ?_, fun k hk e => ?_⟩
    · cases hv : v.ownBlock with
      | none => cases x.ownBlock <;> simp
      | some k => exact .inr (hxn k hv)
    · simp only [Value.ownBlock, Option.some.injEq] at hk
      subst hk
      rcases h4 with hat | rfl
      · exact hxn g hat e
      · have := (hx.lt _ e).2
        simp at this
        omega
  rw [List.length_append, List.length_singleton] at hi
  by_cases h' : i < D.length
  · rw [nthL_append_left h']
    have e : (rvs ++ [rv]).getD i undef = rvs.getD i undef := by simp [List.getD, List.getElem?_append, hl, h']
    rw [e]
    exact key _ _ (hp i h').1 (hp i h').2
  · have : i = D.length := by omega
    subst this
    rw [nthL_append_here]
    have e : (rvs ++ [rv]).getD D.length undef = rv := by simp [List.getD, ← hl]
    rw [e]
    exact key _ _ hr hne
end

section
open Go.RowKit
set_option linter.unusedVariables false
set_option maxRecDepth 100000
attribute [local go_sem ↓] Go.wp_at_zero Go.wp_at_succ

/-- A customer of whatever numbers of its kinds. -/
structure WfC (C : Cu) : Prop where
  kd : (Lit.int .i64 C.kd).wf = true
  dm : (Lit.int .i64 C.dm).wf = true
  rt : (Lit.int .i64 C.rt).wf = true
  sz : (Lit.int .i64 C.sz).wf = true
  st : (Lit.int .i64 C.st).wf = true
  ru : (Lit.int .i64 C.ru).wf = true
  hd : (Lit.int .i64 C.hd).wf = true
  ps : ∀ x ∈ C.ps, x < 18446744073709551616

theorem good_is (C : Cu) (pv : Value) (days : Nat) (w : World) (hw : WfC C) (hp : Words w pv C.ps) (hdays : 1 ≤ days) (hdays2 : days ≤ 7) :
    Calls Tryz.prog 25 #[.agg #[.int .i64 C.kd, .int .i64 C.dm, pv, .int .i64 C.rt, .int .i64 C.sz, .int .i64 C.st, .int .i64 C.ru, .int .i64 C.hd], .int .i64 days] w (GoodOut days w) := by
  by_cases h : C.kd.tmod 2 = 0
  · exact goodTank_is C pv days w hw.kd hw.rt hw.sz hw.st hw.ru hw.hd h
  · exact goodPer_is C pv days w hw.dm h hp hw.ps hdays hdays2

theorem inst_lies {w : World} {g : Nat} {f0 f1 f2 f3 cs dv : Value} (h : IsInst w g f0 f1 f2 f3 cs dv) : Lies w g [f0, f1, f2, f3, cs, dv] := by
  intro j u hj
  have hl : j < 6 := (List.getElem?_eq_some_iff.1 hj).1
  match j, hl with
  | 0, _ => cases hj; exact h.c0
  | 1, _ => cases hj; exact h.c1
  | 2, _ => cases hj; exact h.c2
  | 3, _ => cases hj; exact h.c3
  | 4, _ => cases hj; exact h.c4
  | 5, _ => cases hj; exact h.c5
theorem lies_inst {w : World} {g : Nat} {f0 f1 f2 f3 cs dv : Value} (h : Lies w g [f0, f1, f2, f3, cs, dv]) : IsInst w g f0 f1 f2 f3 cs dv :=
  ⟨h.at 0 _ rfl, h.at 1 _ rfl, h.at 2 _ rfl, h.at 3 _ rfl, h.at 4 _ rfl, h.at 5 _ rfl⟩

/-- The instance that Good makes stands in block g, with customers L and no distances yet. -/
structure InstSt (g days : Nat) (ve cp ln : Int) (cv : Value) (L : List Cu) (w2 wr : World) : Prop where
  lies : Lies wr g [.int .i64 days, .int .i64 ve, .int .i64 cp, .int .i64 ln, cv, .slice none 0 0]
  f4 : wr.frozen? ⟨g, 4, none⟩ = false
  f5 : wr.frozen? ⟨g, 5, none⟩ = false
  own : OwnC wr (g + 1) cv L
  good : ∀ C ∈ L, GoodC days C
  below : Below g w2 wr

theorem InstSt.drew {g days : Nat} {ve cp ln : Int} {cv : Value} {L : List Cu} {w2 wr : World} (h : InstSt g days ve cp ln cv L w2 wr) : InstSt g days ve cp ln cv L w2 wr.drew :=
  ⟨h.lies, h.f4, h.f5, h.own, h.good, h.below.drew⟩
theorem lies6_cells {w : World} {g : Nat} {v0 v1 v2 v3 v4 v5 : Value} (h : Lies w g [v0, v1, v2, v3, v4, v5]) :
    w.cell? ⟨g, 0, none⟩ = some v0 ∧ w.cell? ⟨g, 1, none⟩ = some v1 ∧ w.cell? ⟨g, 2, none⟩ = some v2 ∧ w.cell? ⟨g, 3, none⟩ = some v3 ∧ w.cell? ⟨g, 4, none⟩ = some v4 ∧ w.cell? ⟨g, 5, none⟩ = some v5 :=
  ⟨h.at 0 _ rfl, h.at 1 _ rfl, h.at 2 _ rfl, h.at 3 _ rfl, h.at 4 _ rfl, h.at 5 _ rfl⟩

theorem InstSt.ne {g days : Nat} {ve cp ln : Int} {cv : Value} {L : List Cu} {w2 wr : World} (h : InstSt g days ve cp ln cv L w2 wr) : some g ≠ cv.ownBlock := fun e => by
  have := (h.own.lt g e.symm).1
  omega
theorem InstSt.push {tb days : Nat} {ve cp ln : Int} {v : Value} {M : List Cu} {w2 wr w5 w6 : World} (hs : InstSt tb days ve cp ln v M w2 wr) (b5 : Below wr.heap.size wr w5) (C5 : Cu) (pv5 : Value) (hG : GoodC days C5) (hO : OwnW w5 wr.heap.size pv5 C5.ps) (o : Obj) {g cap : Nat} {pvs : List Value}
    (hpl : pvs.length = M.length) (hps : ∀ i, i < M.length → OwnW w5 (tb + 1) (pvs.getD i undef) (nthC M i).ps ∧ ∀ k, v.ownBlock = some k → (pvs.getD i undef).ownBlock ≠ some k)
    (hrow : w6.ownsRow (tb + 1) 53 8 (.slice (some ⟨g, 0, none⟩) (M.length + 1) cap) (M.length + 1) (rowC M pvs ++ cuV C5 pv5)) (hg : (w5.alloc o).grownBy w6 v.ownBlock) (hat : v.ownBlock = some g ∨ g = (w5.alloc o).heap.size) :
    InstSt tb days ve cp ln (.slice (some ⟨g, 0, none⟩) (M.length + 1) cap) (M ++ [C5]) w2 (w6.setCell ⟨tb, 4, none⟩ (.slice (some ⟨g, 0, none⟩) (M.length + 1) cap)) := by
  have hlt := hs.own.lt
  have htb := hs.lies.lt
  have hne : some tb ≠ v.ownBlock := fun e => by have := (hlt tb e.symm).1; omega
  have ba := bel2 b5 (belAlloc w5 o)
  have hw5 : wr.heap.size ≤ w5.heap.size := b5.size
  have hsz : (w5.alloc o).heap.size = w5.heap.size + 1 := by simp
  have hg5 : wr.grownBy w6 v.ownBlock := grownBy_trans (grownBy_below ba) hg
  refine ⟨(hs.lies.kept hg5 hne).set 4 _ (by simp), ?_, ?_, ?_, ?_, ?_⟩
  · rw [World.frozen?_setCell]; exact frozen_grown hg5 htb hne hs.f4
  · rw [World.frozen?_setCell]; exact frozen_grown hg5 htb hne hs.f5
  · refine OwnC.kept (OwnC.push (W := w5.alloc o) hpl (fun i hi => ⟨(hps i hi).1.below (belAlloc w5 o), (hps i hi).2⟩) ((hO.mono (by omega)).below (belAlloc w5 o)) (fun k hk e => ?_) hrow hg hat) (grownBy_setCell w6 ⟨tb, 4, none⟩ _) (by simp)
    have := (hlt k hk).2
    have := (hO.lt k e).1
    omega
  · intro C hC
    rcases List.mem_append.1 hC with hC | hC
    · exact hs.good C hC
    · simp at hC; subst hC; exact hG
  · refine Below.setCell (p := ⟨tb, 4, none⟩) ?_ (Nat.le_refl _) _
    refine (hs.below.grown hg5 (by omega) (fun k hk => by have := (hlt k hk).1; omega))

/-- The instance that Good makes stands in block g, with its customers, and some rows of distances. -/
structure DistSt (g days : Nat) (ve cp ln : Int) (cv dv : Value) (E : List (List Int)) (w6 wr : World) : Prop where
  lies : Lies wr g [.int .i64 days, .int .i64 ve, .int .i64 cp, .int .i64 ln, cv, dv]
  f5 : wr.frozen? ⟨g, 5, none⟩ = false
  own : OwnD wr w6.heap.size dv E
  grown : w6.grownBy wr (some g)
theorem InstSt.dist {g days : Nat} {ve cp ln : Int} {cv : Value} {L : List Cu} {w2 w6 : World} (h : InstSt g days ve cp ln cv L w2 w6) : DistSt g days ve cp ln cv (.slice none 0 0) [] w6 w6 :=
  ⟨h.lies, h.f5, OwnD.nil _ _, ⟨rfl, rfl, rfl, Nat.le_refl _, fun _ _ _ => rfl⟩⟩
/-- Rows of small distances. -/
def GoodRows (N : Nat) (E : List (List Int)) : Prop := ∀ i, i < E.length → (nthL E i).length = N + 1 ∧ ∀ k, k ≤ N → 0 ≤ nth (nthL E i) k ∧ nth (nthL E i) k ≤ 60 ∧ (i = k → nth (nthL E i) k = 0)
theorem goodRows_nil (N : Nat) : GoodRows N [] := fun i hi => absurd hi (by simp)

/-- One row of small distances. -/
def RowOk (N i : Nat) (xs : List Int) : Prop := xs.length = N + 1 ∧ ∀ k, k ≤ N → 0 ≤ nth xs k ∧ nth xs k ≤ 60 ∧ (i = k → nth xs k = 0)
theorem rowOk_zero (N i : Nat) : RowOk N i (List.replicate (N + 1) 0) := by
  refine ⟨by simp, fun k hk => ?_⟩
  have : nth (List.replicate (N + 1) 0) k = 0 := by rw [nth_lt (by simp; omega)]; simp
  rw [this]
  omega
theorem rowOk_set {N i j : Nat} {xs : List Int} {R : Int} (h : RowOk N i xs) (hj : j ≤ N) (hR : 0 ≤ R ∧ R ≤ 60) (hij : ¬ i = j) : RowOk N i (xs.set j R) := by
  refine ⟨by simp [h.1], fun k hk => ?_⟩
  rw [nth_set (by rw [h.1]; omega)]
  split
  · rename_i e
    subst e
    exact ⟨hR.1, hR.2, fun e => absurd e hij⟩
  · exact h.2 k hk
theorem goodRows_push {N i : Nat} {E : List (List Int)} {xs : List Int} (h : GoodRows N E) (hE : E.length = i) (hr : RowOk N i xs) : GoodRows N (E ++ [xs]) := by
  intro j hj
  rw [List.length_append, List.length_singleton] at hj
  by_cases h' : j < E.length
  · rw [nthL_append_left h']; exact h j h'
  · have : j = E.length := by omega
    subst this
    rw [nthL_append_here]
    subst hE
    exact hr
theorem arc_wf {D : List (List Int)} (h : ∀ r ∈ D, ∀ x ∈ r, (Lit.int .i64 x).wf = true) (a b : Int) : (Lit.int .i64 (arcI D a b)).wf = true := by
  unfold arcI
  split
  · by_cases h1 : a.toNat < D.length
    · by_cases h2 : b.toNat < (nthL D a.toNat).length
      · rw [nth_lt h2]
        exact h _ (by rw [nthL_lt h1]; exact List.getElem_mem h1) _ (List.getElem_mem h2)
      · rw [nth_ge (by omega)]; decide
    · rw [nthL_ge (by omega), nth_ge (by simp)]; decide
  · decide
theorem grown_step {a b c : World} {t : Nat} {r : Option Nat} (h : a.grownBy b (some t)) (k : b.grownBy c r) (hr : ∀ x, r = some x → a.heap.size ≤ x) : a.grownBy c (some t) :=
  ⟨k.os.trans h.os, k.tape.trans h.tape, k.output.trans h.output, Nat.le_trans h.size k.size, fun i hi hne => (k.block i (Nat.lt_of_lt_of_le hi h.size) (fun e => by have := hr i e.symm; omega)).trans (h.block i hi hne)⟩

/-- An instance that may be, with small numbers. -/
structure GoodI (days : Nat) (ve cp ln : Int) (L : List Cu) (D : List (List Int)) : Prop where
  d1 : 1 ≤ days
  d7 : days ≤ 7
  ve0 : 0 ≤ ve
  ve5 : ve ≤ 5
  cp0 : 0 ≤ cp
  cp40 : cp ≤ 40
  ln0 : 0 ≤ ln
  ln300 : ln ≤ 300
  n6 : L.length ≤ 6
  good : ∀ C ∈ L, GoodC days C
  rows : D.length = L.length + 1
  dist : GoodRows L.length D

/-- What Good answers. -/
def InstOut (i0 : Int) (n0 : Nat) (w : World) (e : Ending) (w' : World) : Prop :=
  ∃ (days : Nat) (ve cp ln : Int) (cv dv : Value) (L : List Cu) (D : List (List Int)), e = .returned (.agg #[.int .i64 days, .int .i64 ve, .int .i64 cp, .int .i64 ln, cv, dv]) ∧ (days : Int) = rnd i0 1 7 ∧ L.length = min n0 6 ∧
    GoodI days ve cp ln L D ∧ Custs w' cv L ∧ Grid w' dv D ∧ Below w.heap.size w w'

set_option maxRecDepth 100000 in
set_option maxHeartbeats 3200000 in
theorem goodInst_is (i0 i1 i2 i3 : Int) (cv dv : Value) (L : List Cu) (D : List (List Int)) (w : World) (h0 : (Lit.int .i64 i0).wf = true) (h1 : (Lit.int .i64 i1).wf = true) (h2 : (Lit.int .i64 i2).wf = true) (h3 : (Lit.int .i64 i3).wf = true)
    (hC : Custs w cv L) (hL : ∀ C ∈ L, WfC C) (hD : Grid w dv D) (hDw : ∀ r ∈ D, ∀ x ∈ r, (Lit.int .i64 x).wf = true) :
    Calls Tryz.prog 7 #[.agg #[.int .i64 i0, .int .i64 i1, .int .i64 i2, .int .i64 i3, cv, dv]] w (InstOut i0 L.length w) := by
  obtain ⟨w1, ew, hb1, hsz1, hin⟩ := box_inst w (.int .i64 i0) (.int .i64 i1) (.int .i64 i2) (.int .i64 i3) cv dv
  obtain ⟨w2, ew2, hb2, hsz2, hin2⟩ := box_inst w1 (.int .i64 0) (.int .i64 0) (.int .i64 0) (.int .i64 0) (.slice none 0 0) (.slice none 0 0)
  obtain ⟨days, hdays⟩ := Int.eq_ofNat_of_zero_le (show 0 ≤ rnd i0 1 7 by have := rnd_bd i0 1 7 (by decide); omega)
  have hdb := rnd_bd i0 1 7 (by decide)
  have Hdays := Lib.hid hdays.symm
  rw [hdays] at hdb
  obtain ⟨hd1, hd7⟩ := hdb
  have Hday := Lib.hid (fun w => (hdays ▸ round06_is i0 1 7 w h0 (by decide) (by decide) (by decide) : Calls Tryz.prog 24 #[.int .i64 i0, .int .i64 1, .int .i64 7] w fun e w' => e = .returned (.int .i64 days) ∧ w = w'))
  have Hve := Lib.hid (fun w => round06_is i1 0 5 w h1 (by decide) (by decide) (by decide))
  have Hcp := Lib.hid (fun w => round06_is i2 0 40 w h2 (by decide) (by decide) (by decide))
  have Hln := Lib.hid (fun w => round06_is i3 0 300 w h3 (by decide) (by decide) (by decide))
  have hin := hin.below hb2
  obtain ⟨c0, c1, c2, c3, c4, c5⟩ := hin
  have HC := Lib.hid ((hC.below hb1).below hb2)
  have HD := Lib.hid ((hD.below hb1).below hb2)
  have l0 : w.heap.size < w2.heap.size := by omega
  have l1 : w.heap.size + 1 < w2.heap.size := by omega
  have hb := Lib.hid (hb1.trans (hb2.mono hb1.size))
  have HF2 : Hid (∀ j, w2.frozen? ⟨w.heap.size + 1, j, none⟩ = false) := Lib.hid (fun j => by rw [← ew2, ← hsz1]; simp [go_sem])
  rw [hsz1] at hin2
  have hin2' := Lib.hid hin2
  have Hew := Lib.hid ew
  have Hew2 := Lib.hid ew2
  clear hin2 ew ew2 hC hD hsz1 hsz2 hb1 hb2 hdays
  go_enter Tryz.func7, Tryz.ntmps7
  go_upto_region 1 with fail
  rw [Hew.out, Hew2.out]
  generalize eg : w.heap.size = g at *
  have Heg := Lib.hid eg
  clear eg
  obtain ⟨w3, ew3, hb3, hsz3, hin3⟩ := box_inst w2 (.int .i64 days) (.int .i64 (rnd i1 0 5)) (.int .i64 (rnd i2 0 40)) (.int .i64 (rnd i3 0 300)) (.slice none 0 0) (.slice none 0 0)
  have hst : InstSt w2.heap.size days (rnd i1 0 5) (rnd i2 0 40) (rnd i3 0 300) (.slice none 0 0) [] w2 w3 := ⟨inst_lies hin3, by rw [← ew3]; simp [go_sem], by rw [← ew3]; simp [go_sem], OwnC.nil _ _, by simp, hb3⟩
  have Hst := Lib.hid hst
  have Hew3 := Lib.hid ew3
  clear ew3 hst hb3 hsz3 hin3
  have hz1 := rnd_bd i1 0 5 (by decide)
  have hz2 := rnd_bd i2 0 40 (by decide)
  have hz3 := rnd_bd i3 0 300 (by decide)
  have Hbds := Lib.hid (show 0 ≤ rnd i1 0 5 ∧ rnd i1 0 5 ≤ 5 ∧ 0 ≤ rnd i2 0 40 ∧ rnd i2 0 40 ≤ 40 ∧ 0 ≤ rnd i3 0 300 ∧ rnd i3 0 300 ≤ 300 from ⟨hz1.1, hz1.2, hz2.1, hz2.2, hz3.1, hz3.2⟩)
  clear hz1 hz2 hz3
  generalize rnd i1 0 5 = ve at *
  generalize rnd i2 0 40 = cp at *
  generalize rnd i3 0 300 = ln at *
  go_cut [3] (fun s3 wx => ∃ tb, s3 = .pointer (some ⟨tb, 0, none⟩) ∧ tb = w2.heap.size ∧ InstSt tb days ve cp ln (.slice none 0 0) [] w2 wx)
  case first =>
    go_region_held3 (fun w' => w'.cell? ⟨g, 0, none⟩ = some (.int .i64 i0) ∧ w'.cell? ⟨g, 1, none⟩ = some (.int .i64 i1) ∧ w'.cell? ⟨g, 2, none⟩ = some (.int .i64 i2) ∧ w'.cell? ⟨g, 3, none⟩ = some (.int .i64 i3)) (go_keep)
      (first
        | (go_at_call_of 24 (Value.int .i64 i0); refine (Hday.out _).mono ?_; rintro e w' ⟨rfl, rfl⟩)
        | (go_at_call_of 24 (Value.int .i64 i1); refine (Hve.out _).mono ?_; rintro e w' ⟨rfl, rfl⟩)
        | (go_at_call_of 24 (Value.int .i64 i2); refine (Hcp.out _).mono ?_; rintro e w' ⟨rfl, rfl⟩)
        | (go_at_call_of 24 (Value.int .i64 i3); refine (Hln.out _).mono ?_; rintro e w' ⟨rfl, rfl⟩))
    all_goals
      go_wp2_with fail
      go_meet
      rw [Hew3.out]
      exact ⟨_, rfl, rfl, Hst.out.drew⟩
  case rest =>
    obtain ⟨tb, rfl, htb, hst⟩ := hcut
    rw [← htb] at l0 l1
    have Htb := Lib.hid htb
    have HS := Lib.hid hst
    clear htb hst
    obtain ⟨ca, n, cc, rfl, hn, hnm, hcs⟩ := HC.out.open
    have Hn := Lib.hid hn
    have HnL := Lib.hid hn
    have Hcs := Lib.hid hcs
    clear hn hcs
    go_upto_block 0 with fail
    go_cut [4] (fun s4 wx => ∃ (M : List Cu) (v : Value), M.length = min n 6 ∧ InstSt tb days ve cp ln v M w2 wx)
    case first =>
      go_wp2_with fail
      go_loopw [4] (fun i wr => ∃ (k : Nat) (v : Value) (M : List Cu), i = .int .i64 k ∧ k ≤ n ∧ k ≤ 6 ∧ M.length = k ∧ InstSt tb days ve cp ln v M w2 wr) (fun i _ => 6 - (intOf i).toNat)
      case atStart => exact ⟨0, _, [], rfl, Nat.zero_le _, by omega, rfl, HS.out⟩
      case round =>
        obtain ⟨k, v, M, rfl, hkn, hk6, hM, hs⟩ := hrel
        obtain ⟨e0, e1, e2, e3, e4, e5⟩ := lies6_cells hs.lies
        have e6 := hs.f4
        have c4' := cell_lt hs.below l0 c4
        have lt := hs.lies.lt
        have Hs := Lib.hid hs
        have HM := Lib.hid hM
        clear hs hM
        by_cases hgo : k < n ∧ k < 6
        · obtain ⟨g1, g2⟩ := hgo
          obtain ⟨b, o, pv, rfl, hbl, hcu⟩ := Hcs.out k g1
          rw [← Htb.out] at hbl
          have hWf := Lib.hid (hL (nthC L k) (nthC_mem (by rw [Hn.out]; exact g1)))
          have HWr := Lib.hid (hcu.pats.below (by rw [← Htb.out]; exact Hs.out.below))
          obtain ⟨u0, u1, u2, u3, u4, u5, u6, u7, _⟩ := hcu
          have v0 := cell_lt Hs.out.below hbl u0
          have v1 := cell_lt Hs.out.below hbl u1
          have v2 := cell_lt Hs.out.below hbl u2
          have v3 := cell_lt Hs.out.below hbl u3
          have v4 := cell_lt Hs.out.below hbl u4
          have v5 := cell_lt Hs.out.below hbl u5
          have v6 := cell_lt Hs.out.below hbl u6
          have v7 := cell_lt Hs.out.below hbl u7
          have hi0 : (0 : Int) ≤ (k : Int) := by omega
          have hi1 : (k : Int) < (n : Int) := by omega
          have hi6 : (k : Int) < 6 := by omega
          generalize nthC L k = C at *
          clear u0 u1 u2 u3 u4 u5 u6 u7
          go_upto_region 5 with fail
          go_region_law (first
            | (refine step_wanted (by rfl) ?_; go_simp; go_at_call 25; refine (good_is C pv days _ hWf.out ?_ (by omega) (by omega)).mono ?_; (first | exact HWr.out | exact HWr.out.below (belDrew _)); rintro e w5 ⟨C5, pv5, rfl, hG5, hO5, hb5⟩; (first | have b5 := bel2 (Below.refl wr.heap.size wr) hb5 | have b5 := bel2 (belDrew wr) hb5); have e45 := cell_below b5 e4; have e65 := frozen_below b5 lt e6; obtain ⟨pvs, hpl, hrow, hps⟩ := Hs.out.own.below b5; have lt5 := Nat.lt_of_lt_of_le lt b5.size)
            | (refine step_pushN (by rfl) (.tmp 34) (.tmp 43) 22 53 _ 8 80 Tryz.underlying22 info_cust rfl (by decide) (by decide) (by rfl) _ (tb + 1) v M.length (rowC M pvs) (cuV C5 pv5) w5.heap.size (by rfl) (by rfl) (by exact Lies.new w5 (cuV C5 pv5) _) rfl (cuV_one hO5) (World.ownsRow.alloc hrow _) (by rw [HM.out]; omega) (by simp; omega) ?_; intro g6 cap6 w6 hrow6 hg6 hb6 hat6 hge6 hlt6; have Hst6 := Lib.hid (Hs.out.push b5 C5 pv5 hG5 hO5 _ hpl hps hrow6 hg6 hat6); have hne6 := Hs.out.ne; have e46 := hg6.cell (cell_below (belAlloc w5 _) e45) hne6; have e66 := frozen_grown hg6 (by simp; omega) hne6 (frozen_below (belAlloc w5 _) lt5 e65)))
          all_goals
            go_wp2_with fail
            go_roundw
            case rel => exact ⟨k + 1, _, M ++ [C5], by go_num, by omega, by omega, by simp [HM.out], (by first | exact Hst6.out | exact Hst6.out.drew)⟩
            case measure => simp [intOf]; omega
        · have hgo2 : (decide (k < n) = false) ∨ (decide (k < n) = true ∧ decide ((k : Int) < 6) = false) := by
            by_cases q : k < n
            · exact .inr ⟨by simpa using q, by simp; omega⟩
            · exact .inl (by simpa using q)
          have Hkn : Hid (k = min n 6) := Lib.hid (by omega)
          clear hgo hkn hk6
          rcases hgo2 with q1 | ⟨q1, q2⟩
          all_goals
            go_wp2_with fail
            go_meet
            exact ⟨M, v, by rw [HM.out]; exact Hkn.out, Hs.out⟩
    case rest =>
      obtain ⟨M, v, hM, hs⟩ := hcut
      obtain ⟨w6, rfl⟩ : ∃ w6 : World, w6 = wc := ⟨_, rfl⟩
      obtain ⟨va, N, vc, rfl, hN, _, _⟩ := hs.own.custs.open
      have hN6 : N ≤ 6 := by omega
      have Hs := Lib.hid hs
      have HM := Lib.hid hM
      have HN := Lib.hid hN
      obtain ⟨e0, e1, e2, e3, e4, e5⟩ := lies6_cells hs.lies
      have lt6 := hs.lies.lt
      have HS0 := Lib.hid hs.dist
      have Hb6 := Lib.hid hs.below
      have hsz6 : tb ≤ w6.heap.size := by omega
      have hL2 := Lib.hid ((inst_lies hin2'.out).lower hs.below l1)
      have HF6 : Hid (∀ j, w6.frozen? ⟨g + 1, j, none⟩ = false) := Lib.hid (fun j => frozen_lt hs.below l1 (HF2.out j))
      clear hs hM hN
      go_wp2_with fail
      go_loopw [6, 7, 8] (fun i u7 u8 wr => ∃ (k : Nat) (v7 v8 dvv : Value) (E : List (List Int)), i = .int .i64 k ∧ v7 = u7 ∧ v8 = u8 ∧ k ≤ N + 1 ∧ E.length = k ∧ GoodRows N E ∧ DistSt tb days ve cp ln (.slice va N vc) dvv E w6 wr) (fun i _ _ _ => N + 1 - (intOf i).toNat)
      case atStart => exact ⟨0, _, _, _, [], rfl, rfl, rfl, Nat.zero_le _, rfl, goodRows_nil N, HS0.out⟩
      case round =>
        obtain ⟨i, v7, v8, dvv, E, rfl, rfl, rfl, hi, hE, hG, hd⟩ := hrel
        have HE := Lib.hid hE
        have HG := Lib.hid hG
        have Hd := Lib.hid hd
        obtain ⟨r0, r1, r2, r3, r4, r5⟩ := lies6_cells hd.lies
        have r6 := hd.f5
        have ltr := hd.lies.lt
        have hbr := Hb6.out.grown hd.grown hsz6 (by simp)
        have d0 := cell_lt hbr l0 c0
        have d1 := cell_lt hbr l0 c1
        have d2 := cell_lt hbr l0 c2
        have d3 := cell_lt hbr l0 c3
        have d4 := cell_lt hbr l0 c4
        have d5 := cell_lt hbr l0 c5
        have lg : g < wr.heap.size := World.block_lt_of_cell? wr _ d0
        have HDr := Lib.hid (HD.out.below (by rw [← Htb.out]; exact hbr))
        have Hbr := Lib.hid hbr
        clear hE hG hd hbr
        by_cases hlt : i ≤ N
        · obtain ⟨w7, hmk, hown7, hb7⟩ := made_ints wr (N + 1) (by omega)
          rw [show (((N + 1 : Nat)) : Int) = (N : Int) + 1 from by simp] at hmk
          have Hmk := Lib.hid hmk
          have Hown7 := Lib.hid hown7
          have Hb7 := Lib.hid hb7
          have hiN : (i : Int) ≤ (N : Int) := by omega
          have hN0 : (N : Int) ≤ 6 := by omega
          clear hmk hown7 hb7
          go_wp2_with fail
          rw [Hmk.out]
          go_wp2_with fail
          obtain ⟨wo, rfl⟩ : ∃ wo : World, wo = wr := ⟨_, rfl⟩
          generalize egr : wo.heap.size = gr at *
          have Hgr := Lib.hid egr
          clear egr
          go_loopw [8] (fun u wq => ∃ (j : Nat) (xs : List Int), u = .int .i64 j ∧ j ≤ N + 1 ∧ RowOk N i xs ∧ Own wq gr (.slice (some ⟨gr, 0, none⟩) (N + 1) (N + 1)) xs ∧ Below gr wo wq) (fun u _ => N + 1 - (intOf u).toNat)
          case atStart => exact ⟨0, _, rfl, Nat.zero_le _, rowOk_zero N i, Hown7.out, Hb7.out⟩
          case round =>
            obtain ⟨j, xs, rfl, hj, hrow, hown, hbq⟩ := hrel
            have Hrow := Lib.hid hrow
            have hxl := hrow.1
            have HbQ : Hid (Below wo.heap.size wo wr) := Lib.hid (by rw [Hgr.out]; exact hbq)
            have HGq := Lib.hid (HDr.out.below HbQ.out)
            have q0 := cell_lt hbq lg d0
            have q1 := cell_lt hbq lg d1
            have q2 := cell_lt hbq lg d2
            have q3 := cell_lt hbq lg d3
            have q4 := cell_lt hbq lg d4
            have q5 := cell_lt hbq lg d5
            have lq : gr ≤ wr.heap.size := by have := hbq.size; rw [Hgr.out] at this; exact this
            have Hxl := Lib.hid hxl
            clear hrow hxl
            by_cases hlj : j ≤ N
            · have hjN : (j : Int) ≤ (N : Int) := by omega
              by_cases hij : i = j
              · subst hij
                have hne : (i != i) = false := by simp
                have hne' : ((i : Int) != (i : Int)) = false := by simp
                go_wp2_with fail
                go_roundw
                case rel => exact ⟨i + 1, xs, by go_num, by omega, Hrow.out, hown, hbq⟩
                case measure => simp [intOf]; omega
              · have hne : (i != j) = true := by simpa using hij
                have hne' : ((i : Int) != (j : Int)) = true := by simp; omega
                have Hij := Lib.hid hij
                clear hij
                have Hown := Lib.hid hown
                have Hbq := Lib.hid hbq
                clear hown hbq
                go_wp2_with fail
                refine (refArc_is i0 i1 i2 i3 _ dv D i j _ HGq.out).mono ?_
                rintro e w8 ⟨rfl, hb8⟩
                have hwf := Lib.hid (arc_wf hDw (i : Int) (j : Int))
                generalize arcI D (i : Int) (j : Int) = A at *
                go_wp2_with fail
                refine (round06_is A 0 60 _ hwf.out (by decide) (by decide) (by decide)).mono ?_
                rintro e w' ⟨rfl, rfl⟩
                have hA := rnd_bd A 0 60 (by decide)
                have HA := Lib.hid hA
                generalize rnd A 0 60 = R at *
                have Hown8 := Lib.hid (Hown.out.below hb8)
                have Hb8 := Lib.hid (Hbq.out.trans (hb8.mono lq))
                obtain ⟨gr', c', hv', _, _, _, hcell⟩ := Hown8.out.out (by rw [Hxl.out]; omega)
                simp only [Value.slice.injEq, Option.some.injEq, Addr.mk.injEq, and_true] at hv'
                obtain ⟨rfl, hv1, hv2⟩ := hv'
                obtain ⟨f0, f1⟩ := hcell j (by rw [Hxl.out]; omega)
                rw [Nat.zero_add] at f0 f1
                have hj0 : (0 : Int) ≤ (j : Int) := by omega
                have hj1 : (j : Int) < (N : Int) + 1 := by omega
                have hset := Hown8.out.set j R (by rw [Hxl.out]; omega)
                rw [Nat.zero_add] at hset
                have Hset := Lib.hid hset
                clear hA hcell hv1 hv2 hset hb8
                go_wp2_with fail
                go_roundw
                case rel => exact ⟨j + 1, xs.set j R, by go_num, by omega, rowOk_set Hrow.out hlj HA.out Hij.out, Hset.out, Hb8.out.setCell (p := ⟨gr, j, none⟩) (Nat.le_refl _) _⟩
                case measure => simp [intOf]; omega
            · have hjj : j = N + 1 := by omega
              subst hjj
              have r5q := cell_lt hbq ltr r5
              have r6q := frozen_lt hbq ltr r6
              have HdL := Lib.hid (Hd.out.lies.lower hbq ltr)
              have HoD := Lib.hid (Hd.out.own.below HbQ.out)
              have hsz : w6.heap.size ≤ gr := by have := Hd.out.grown.size; rw [Hgr.out] at this; exact this
              have hownR := Lib.hid (hown.mono hsz)
              have Hne : Hid (∀ k, dvv.ownBlock = some k → (Value.slice (some ⟨gr, 0, none⟩) (N + 1) (N + 1)).ownBlock ≠ some k) := Lib.hid (fun k hk e => by
                have := (Hd.out.own.lt k hk).2
                rw [Hgr.out] at this
                simp only [Value.ownBlock, Option.some.injEq] at e
                omega)
              have Hl : Hid (E.length + 1 ≤ 1000000000000) := Lib.hid (by rw [HE.out]; omega)
              have hsq : w6.heap.size ≤ wr.heap.size := by omega
              have hgq : w6.grownBy wr (some tb) := grown_step Hd.out.grown (r := none) (grownBy_below HbQ.out) (by simp)
              have Hgq := Lib.hid hgq
              clear hown hbq hgq hi hlt hj hlj
              go_wp2_with (at_builtin; refine wpList_pushD rfl _ _ rfl wr w6.heap.size dvv E (.slice (some ⟨gr, 0, none⟩) (N + 1) (N + 1)) xs rfl rfl rfl HoD.out hownR.out Hne.out Hl.out hsq ?_)
              intro g9 c9 w9 hown9 hg9 hb9 hg9a hg9b
              have hn9 := HoD.out.not' lt6
              have HL9 := Lib.hid (HdL.out.kept hg9 hn9)
              have r59 := HL9.out.at 5 _ rfl
              have r69 := frozen_grown hg9 (by omega) hn9 r6q
              have Hg9 := Lib.hid (grown_step Hgq.out hg9 (fun x hx => (HoD.out.lt x hx).1))
              have Ho9 := Lib.hid hown9
              clear hown9 hg9 hb9 hn9 r5q r6q
              go_wp2_with fail
              go_roundw
              case rel =>
                refine ⟨i + 1, _, _, _, E ++ [xs], by go_num, rfl, rfl, by omega, by simp [HE.out], goodRows_push HG.out HE.out Hrow.out, ⟨HL9.out.set 5 _ (by simp), by rw [World.frozen?_setCell]; exact r69, Ho9.out.kept (grownBy_setCell w9 ⟨tb, 5, none⟩ _) (by simp; omega), grownBy_trans Hg9.out (grownBy_setCell w9 ⟨tb, 5, none⟩ _)⟩⟩
              case measure => simp [intOf]; omega
        · have hiN : i = N + 1 := by omega
          have HlG := Lib.hid (hL2.out.kept Hd.out.grown (by simp; omega))
          obtain ⟨s0, s1, s2, s3, s4, s5⟩ := lies6_cells HlG.out
          have hn1 : some (g + 1) ≠ some tb := by simp; omega
          have f0 := frozen_grown Hd.out.grown (by omega) hn1 (HF6.out 0)
          have f1 := frozen_grown Hd.out.grown (by omega) hn1 (HF6.out 1)
          have f2 := frozen_grown Hd.out.grown (by omega) hn1 (HF6.out 2)
          have f3 := frozen_grown Hd.out.grown (by omega) hn1 (HF6.out 3)
          have f4 := frozen_grown Hd.out.grown (by omega) hn1 (HF6.out 4)
          have f5 := frozen_grown Hd.out.grown (by omega) hn1 (HF6.out 5)
          have HiN := Lib.hid hiN
          have hNi : (N : Int) < (i : Int) := by omega
          obtain ⟨ea, en, ec, rfl, _, _, _⟩ := Hd.out.own.grid.open
          clear hiN hn1 hi hlt
          go_wp2_with fail
          have q := set6 HlG.out (.int .i64 days) (.int .i64 ve) (.int .i64 cp) (.int .i64 ln) (.slice va N vc) (.slice ea en ec)
          have q0 := q.at 0 _ rfl
          have q1 := q.at 1 _ rfl
          have q2 := q.at 2 _ rfl
          have q3 := q.at 3 _ rfl
          have q4 := q.at 4 _ rfl
          have q5 := q.at 5 _ rfl
          refine bodyPost_ret (v := .agg #[.int .i64 days, .int .i64 ve, .int .i64 cp, .int .i64 ln, .slice va N vc, .slice ea en ec]) (by simp [results, Tryz.results7, go_sem, q0, q1, q2, q3, q4, q5]) rfl
            ⟨days, ve, cp, ln, .slice va N vc, .slice ea en ec, M, E, rfl, Hdays.out, ?_, ?_, ?_, ?_, ?_⟩
          · rw [HnL.out]; exact HM.out
          · obtain ⟨z1, z2, z3, z4, z5, z6⟩ := Hbds.out
            refine ⟨by omega, by omega, z1, z2, z3, z4, z5, z6, by rw [HN.out]; exact hN6, Hs.out.good, by rw [HE.out, HN.out]; exact HiN.out, by rw [HN.out]; exact HG.out⟩
          · exact ((Hs.out.own.kept Hd.out.grown (by simp)).kept (grown6 _ _ _ _ _ _ _ _) (by simp; omega)).custs
          · exact (Hd.out.own.kept (grown6 _ _ _ _ _ _ _ _) (by simp; omega)).grid
          · rw [Heg.out]
            exact hb.out.trans ((Hbr.out.mono (by omega)).trans (below6 _ _ _ _ _ _ _ _ (by omega)))
end

end Go.Proofs.YtnhcgpkcmfelkaaGreat
