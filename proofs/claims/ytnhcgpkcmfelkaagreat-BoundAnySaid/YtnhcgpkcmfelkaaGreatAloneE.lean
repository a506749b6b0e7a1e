/-
  My own work: alone.fill: its contract.
-/
import Derived.Test.YtnhcgpkcmfelkaaGreatMAl
import Derived.Test.YtnhcgpkcmfelkaaGreatMPol
import Derived.Deep.RegionHeld3
import Derived.Deep.CutBlock
namespace Go.Proofs.YtnhcgpkcmfelkaaGreat
open Go.RowKit
set_option linter.unusedVariables false
set_option maxRecDepth 100000
attribute [local go_sem ↓] Go.wp_at_zero Go.wp_at_succ

/-- The steps while day d is reckoned, j places of it. -/
def stepF (st sz rt hd cap : Int) (P : List Int) (n d j i : Nat) : Option (Int × Int) :=
  if i < d then stp st sz rt hd cap P n i else if i = d then stepUpto st sz rt hd cap P n (stp st sz rt hd cap P n) d j else none
def doneF (st sz rt hd cap : Int) (P : List Int) (n d i : Nat) : Option (Int × Int) := if i < d then stp st sz rt hd cap P n i else none
theorem stepF_start (st sz rt hd cap : Int) (P : List Int) (n d i : Nat) : doneF st sz rt hd cap P n d i = stepF st sz rt hd cap P n d 0 i := by
  unfold doneF stepF
  split
  · rfl
  · split <;> rfl
theorem stepF_end (st sz rt hd cap : Int) (P : List Int) (n d i : Nat) : stepF st sz rt hd cap P n d (d + 1) i = doneF st sz rt hd cap P n (d + 1) i := by
  unfold doneF stepF
  by_cases h : i < d
  · rw [if_pos h, if_pos (by omega)]
  · rw [if_neg h]
    by_cases h' : i = d
    · subst h'
      rw [if_pos rfl, if_pos (by omega), ← stp_eq]
    · rw [if_neg h', if_neg (by omega)]
theorem stepF_skip {st sz rt hd cap : Int} {P : List Int} {n d j : Nat} (h : candE st sz rt hd cap P n (stp st sz rt hd cap P n) d ((j : Int) - 1) = none) (i : Nat) : stepF st sz rt hd cap P n d j i = stepF st sz rt hd cap P n d (j + 1) i := by
  unfold stepF
  rw [stepUpto, h]
  rfl
theorem stepF_yes {st sz rt hd cap : Int} {P : List Int} {n d j : Nat} {x : Int × Int} (h : candE st sz rt hd cap P n (stp st sz rt hd cap P n) d ((j : Int) - 1) = some x)
    (hc : ∀ y, stepUpto st sz rt hd cap P n (stp st sz rt hd cap P n) d j = some y → x.1 < y.1) (i : Nat) : (if i = d then some (x.1, x.2) else stepF st sz rt hd cap P n d j i) = stepF st sz rt hd cap P n d (j + 1) i := by
  unfold stepF
  by_cases h' : i = d
  · subst h'
    rw [if_pos rfl, if_neg (by omega), if_pos rfl, stepUpto, h]
    cases hs : stepUpto st sz rt hd cap P n (stp st sz rt hd cap P n) i j with
    | none => rfl
    | some y =>
      unfold stepPut
      simp only []
      rw [if_pos (hc y hs)]
  · rw [if_neg h']
    by_cases h2 : i < d
    · rw [if_pos h2, if_pos h2]
    · rw [if_neg h2, if_neg h2, if_neg h', if_neg h']
theorem stepF_no {st sz rt hd cap : Int} {P : List Int} {n d j : Nat} {x y : Int × Int} (h : candE st sz rt hd cap P n (stp st sz rt hd cap P n) d ((j : Int) - 1) = some x)
    (hs : stepUpto st sz rt hd cap P n (stp st sz rt hd cap P n) d j = some y) (hc : ¬ x.1 < y.1) (i : Nat) : stepF st sz rt hd cap P n d j i = stepF st sz rt hd cap P n d (j + 1) i := by
  unfold stepF
  by_cases h2 : i < d
  · rw [if_pos h2, if_pos h2]
  · rw [if_neg h2, if_neg h2]
    by_cases h' : i = d
    · subst h'
      rw [if_pos rfl, if_pos rfl, stepUpto, h, hs]
      unfold stepPut
      simp only []
      rw [if_neg hc]
    · rw [if_neg h', if_neg h']
theorem cand_none1 {st sz rt hd cap : Int} {P : List Int} {n d : Nat} {last : Int} {f : Nat → Option (Int × Int)} (h : (decide (0 ≤ last) && (f last.toNat).isNone) = true) : candE st sz rt hd cap P n f d last = none := by
  rw [Bool.and_eq_true, decide_eq_true_eq, Option.isNone_iff_eq_none] at h
  unfold candE
  rw [if_pos h]
theorem cand_none2 {st sz rt hd cap : Int} {P : List Int} {n d : Nat} {last : Int} {f : Nat → Option (Int × Int)} (h : (decide (thereI st sz rt d last < 0) || (decide (d < n) && (mostI sz 1 (thereI st sz rt d last) cap == 0))) = true) : candE st sz rt hd cap P n f d last = none := by
  unfold candE
  split
  · rfl
  · rw [if_pos]
    simpa using h
theorem cand_some {st sz rt hd cap : Int} {P : List Int} {n d : Nat} {last : Int} {f : Nat → Option (Int × Int)} (h1 : (decide (0 ≤ last) && (f last.toNat).isNone) = false) (h : (decide (thereI st sz rt d last < 0) || (decide (d < n) && (mostI sz 1 (thereI st sz rt d last) cap == 0))) = false) :
    candE st sz rt hd cap P n f d last = some (heldI st sz rt hd d last + (if 0 ≤ last then ((f last.toNat).getD (0, 0)).1 else 0) + (if d < n then priceAt P d else 0), last) := by
  unfold candE
  rw [if_neg, if_neg]
  · intro h'
    have : (decide (thereI st sz rt d last < 0) || (decide (d < n) && (mostI sz 1 (thereI st sz rt d last) cap == 0))) = true := by simpa using h'
    rw [h] at this; simp at this
  · rintro ⟨h2, h3⟩
    rw [h3, decide_eq_true h2] at h1
    simp at h1
structure FillSt (w1 : World) (gs : Nat) (F : Nat → Option (Int × Int)) (w : World) : Prop where
  steps : StepsAt w gs F
  below : Below gs w1 w
/-- The step s, in a block of its own. -/
structure BlkSt (w1 : World) (gs g5 : Nat) (F : Nat → Option (Int × Int)) (C L : Int) (w : World) : Prop where
  fill : FillSt w1 gs F w
  b0 : w.cell? ⟨g5, 0, none⟩ = some (.bool true)
  b1 : w.cell? ⟨g5, 1, none⟩ = some (.int .i64 C)
  b2 : w.cell? ⟨g5, 2, none⟩ = some (.int .i64 L)
  fr : w.frozen? ⟨g5, 1, none⟩ = false
  gt : gs < g5
theorem BlkSt.cost {w1 w : World} {gs g5 : Nat} {F : Nat → Option (Int × Int)} {C L : Int} (h : BlkSt w1 gs g5 F C L w) (C' : Int) : BlkSt w1 gs g5 F C' L (w.setCell ⟨g5, 1, none⟩ (.int .i64 C')) :=
  ⟨⟨h.fill.steps.other _ _ (by have := h.gt; simp only []; omega), h.fill.below.setCell (p := ⟨g5, 1, none⟩) (by have := h.gt; simp only []; omega) _⟩, set_far h.b0 (by decide), World.cell?_setCell_same _ _ _ h.b1, set_far h.b2 (by decide), (World.frozen?_setCell _ _ _ _).trans h.fr, h.gt⟩
theorem BlkSt.drewN {w1 w : World} {gs g5 : Nat} {F : Nat → Option (Int × Int)} {C L : Int} (h : BlkSt w1 gs g5 F C L w) (k : Nat) : BlkSt w1 gs g5 F C L (w.drewN k) :=
  ⟨⟨⟨h.fill.steps.c0, h.fill.steps.c1, h.fill.steps.c2, h.fill.steps.fr⟩, below_drewN h.fill.below k⟩, h.b0, h.b1, h.b2, h.fr, h.gt⟩
def LoopL (st sz rt hd cap : Int) (P : List Int) (n d : Nat) (w1 : World) (gs : Nat) (l : Value) (w : World) : Prop :=
  ∃ j : Nat, j ≤ d + 1 ∧ l = .int .i64 ((j : Int) - 1) ∧ FillSt w1 gs (stepF st sz rt hd cap P n d j) w

def SolveOut (w : World) (V : List (Int × Int)) (b : Bool) (e : Ending) (w' : World) : Prop := ∃ v, e = .returned (.tuple #[v, .bool b]) ∧ OwnV w' w.heap.size v V ∧ Below w.heap.size w w'
def FillPost (st sz rt hd cap : Int) (P : List Int) (n : Nat) (w : World) (e : Ending) (w' : World) : Prop :=
  (stp st sz rt hd cap P n n = none ∧ SolveOut w [] false e w') ∨
  ∃ s S, stp st sz rt hd cap P n n = some s ∧ (∀ k, n ≤ k → S.testBit k = false) ∧ OkTo st sz rt cap S n ∧ costS st sz rt hd P S n = s.1 ∧ SolveOut w (visitsOf (fillQ st sz rt S n)) true e w'
theorem set_lt {S n : Nat} (hn : n ≤ 64) (h : ∀ k, n ≤ k → S.testBit k = false) : S < 18446744073709551616 := by
  have h1 : S < 2 ^ n := Nat.lt_pow_two_of_testBit S h
  have h2 : 2 ^ n ≤ 2 ^ 64 := Nat.pow_le_pow_right (by decide) hn
  have h3 : (2 : Nat) ^ 64 = 18446744073709551616 := by decide
  omega

set_option maxHeartbeats 6400000 in
theorem fill_is (kd dm : Int) (pt pv : Value) (rt sz st hd cap : Int) (n : Nat) (P : List Int) (w : World) (T : TankOk st rt sz 1 hd) (hn : n ≤ 20) (hP : Ints w pv P) (hPb : ∀ d, 0 ≤ priceAt P d ∧ priceAt P d ≤ 1000) :
    Calls Tryz.prog 103 #[.agg #[.int .i64 kd, .int .i64 dm, pt, .int .i64 rt, .int .i64 sz, .int .i64 st, .int .i64 1, .int .i64 hd], .int .i64 n, .int .i64 cap, pv] w (FillPost st sz rt hd cap P n w) := by
  obtain ⟨w1, ew, hb1, hsz1, hcu⟩ := box_cust w kd dm pt rt sz st 1 hd
  have hST := StepsAt.new w1 152
  obtain ⟨w2, ew2⟩ : ∃ w2, w1.alloc (.cells Tryz.zeroCells152 152) = w2 := ⟨_, rfl⟩
  have hb2 : Below w1.heap.size w1 w2 := by rw [← ew2]; exact belAlloc _ _
  rw [ew2] at hST
  have Hew := Lib.hid ew
  have Hew2 := Lib.hid ew2
  have hsz : w.heap.size ≤ w1.heap.size := hb1.size
  have HT := Lib.hid T
  have HPb := Lib.hid hPb
  have hP2 := Lib.hid ((hP.below hb1).below hb2)
  have hl1 := hcu.lt
  have HP := Lib.hid (hP.below hb1)
  obtain ⟨c0, c1, c2, c3, c4, c5, c6, c7⟩ := hcu
  have hS0 : FillSt w1 w1.heap.size (doneF st sz rt hd cap P n 0) w2 := ⟨hST.congr (fun i _ => by unfold doneF; rw [if_neg (by omega)]), hb2⟩
  have HS0 := Lib.hid hS0
  have hmin : min (n : Int) 64 = (n : Int) := by omega
  have hmax : max (n : Int) 0 = (n : Int) := by omega
  clear ew ew2 hsz1 T hST hS0 hPb hP
  go_enter Tryz.func103, Tryz.ntmps103
  go_upto_region 1 with (fail)
  rw [Hew.out]
  go_upto_region 3 with (fail)
  rw [Hew2.out]
  generalize eg : w.heap.size = g at *
  generalize es : w1.heap.size = gs at *
  have Heg := Lib.hid eg
  have Hes := Lib.hid es
  clear eg es
  go_wp2_with fail
  go_loopw [23] (fun i wr => ∃ d : Nat, d ≤ n + 1 ∧ i = .int .i64 d ∧ FillSt w1 gs (doneF st sz rt hd cap P n d) wr) (fun i _ => n + 1 - (intOf i).toNat)
  case atStart => exact ⟨0, Nat.zero_le _, rfl, HS0.out⟩
  case round =>
    obtain ⟨d, hd1, rfl, hs⟩ := hrel
    by_cases hlt : d < n + 1
    · have hs2 : LoopL st sz rt hd cap P n d w1 gs (.int .i64 ((0 : Nat) - 1 : Int)) wr := ⟨0, by omega, rfl, hs.steps.congr (fun i _ => stepF_start _ _ _ _ _ _ _ _ _), hs.below⟩
      have Hs2 := Lib.hid hs2
      obtain ⟨wo, rfl⟩ : ∃ wo : World, wo = wr := ⟨_, rfl⟩
      have hdi : (d : Int) < (n : Int) + 1 := by omega
      clear hs hs2
      go_wp2_with fail
      go_loopw [12] (fun l wq => LoopL st sz rt hd cap P n d w1 gs l wq) (fun l _ => d + 1 - (intOf l + 1).toNat)
      case atStart => exact Hs2.out
      case round =>
        obtain ⟨j, hj, rfl, hs⟩ := hrel
        have Hs := Lib.hid hs
        by_cases hlj : (j : Int) - 1 < (d : Int)
        · obtain ⟨wp, rfl⟩ : ∃ wp : World, wp = wr := ⟨_, rfl⟩
          have hbn := hs.below.size
          have hgs := hs.steps.lt
          obtain ⟨d0, d1, d2, d3, d4, d5, d6, d7⟩ : IsCust wp g kd dm pt rt sz st 1 hd := by
            exact ⟨cell_lt hs.below hl1 c0, cell_lt hs.below hl1 c1, cell_lt hs.below hl1 c2, cell_lt hs.below hl1 c3, cell_lt hs.below hl1 c4, cell_lt hs.below hl1 c5, cell_lt hs.below hl1 c6, cell_lt hs.below hl1 c7⟩
          obtain ⟨LA, hLA⟩ : ∃ LA, (j : Int) - 1 = LA := ⟨_, rfl⟩
          obtain ⟨B1, hB1⟩ : ∃ B1, B1 = (decide (0 ≤ LA) && (stp st sz rt hd cap P n LA.toNat).isNone) := ⟨_, rfl⟩
          have hcn1 : B1 = true → candE st sz rt hd cap P n (stp st sz rt hd cap P n) d ((j : Int) - 1) = none := fun h => by rw [hLA]; exact cand_none1 (by rw [← hB1]; exact h)
          have Hcn1 := Lib.hid hcn1
          have HB1 := Lib.hid hB1
          have HLA := Lib.hid hLA
          rw [hLA] at hlj ⊢
          have hlj' : decide (LA < (d : Int)) = true := by simpa using hlj
          have hlm : -1 ≤ LA := by omega
          have hd64 : d ≤ 21 := by omega
          clear hcn1 hs hLA hB1
          go_upto_region 9 with fail
          go_cut [39] (fun s39 wx => s39 = .bool B1 ∧ wp = wx)
          case first =>
            by_cases h0 : 0 ≤ LA
            · obtain ⟨l, rfl⟩ := Int.eq_ofNat_of_zero_le h0
              have hl65 : l < 65 := by omega
              have k0 := Hs.out.steps.c0 l hl65
              have k1 := Hs.out.steps.c1 l hl65
              have k2 := Hs.out.steps.c2 l hl65
              have hst : stepF st sz rt hd cap P n d j l = stp st sz rt hd cap P n l := by unfold stepF; rw [if_pos (by omega)]
              rw [hst] at k0 k1 k2
              have h0' : decide (0 ≤ (l : Int)) = true := by simp
              have hB := HB1.out
              rw [Int.toNat_natCast, h0', Bool.true_and] at hB
              have hi1 : (l : Int) < 65 := by omega
              cases hx : stp st sz rt hd cap P n l with
              | none =>
                rw [hx] at k0 k1 k2 hB
                have k0 : wp.cell? ⟨gs, l * 3, none⟩ = some (.bool false) := k0
                have k1 : wp.cell? ⟨gs, l * 3 + 1, none⟩ = some (.int .i64 0) := k1
                have k2 : wp.cell? ⟨gs, l * 3 + 2, none⟩ = some (.int .i64 0) := k2
                have hB : Hid (B1 = true) := Lib.hid hB
                clear hst hx
                go_wp2_with fail
                go_meet
                exact ⟨by rw [hB.out], rfl⟩
              | some x =>
                rw [hx] at k0 k1 k2 hB
                have k0 : wp.cell? ⟨gs, l * 3, none⟩ = some (.bool true) := k0
                have k1 : wp.cell? ⟨gs, l * 3 + 1, none⟩ = some (.int .i64 x.1) := k1
                have k2 : wp.cell? ⟨gs, l * 3 + 2, none⟩ = some (.int .i64 x.2) := k2
                have hB : Hid (B1 = false) := Lib.hid hB
                clear hst hx
                go_wp2_with fail
                go_meet
                exact ⟨by rw [hB.out], rfl⟩
            · have h0' : decide (0 ≤ LA) = false := by simpa using h0
              have hB : Hid (B1 = false) := Lib.hid (by rw [HB1.out, h0', Bool.false_and])
              clear h0
              go_wp2_with fail
              go_meet
              exact ⟨by rw [hB.out], rfl⟩
          case rest =>
            obtain ⟨rfl, rfl⟩ := hcut
            obtain ⟨wp, rfl⟩ : ∃ wq : World, wq = wp := ⟨_, rfl⟩
            cases B1 with
            | true =>
              have Hnx : Hid (FillSt w1 gs (stepF st sz rt hd cap P n d (j + 1)) wp) := Lib.hid ⟨Hs.out.steps.congr (fun i _ => stepF_skip (Hcn1.out rfl) i), Hs.out.below⟩
              go_wp2_with fail
              go_roundw
              case rel => exact ⟨j + 1, by have := HLA.out; omega, by rw [← HLA.out]; go_num, Hnx.out⟩
              case measure => have := HLA.out; have := hlj; have := hlm; simp [intOf]; omega
            | false =>
              have hR := rest_is kd dm pt rt sz st 1 hd LA d wp HT.out hlm hlj (by omega)
              have hHb := held_bd HT.out hlm hlj (by omega : d ≤ 64)
              have hTb : thereI st sz rt d LA ≤ 100 := by
                have := HT.out.st1
                have := HT.out.sz1
                unfold thereI
                split
                · have := Int.mul_nonneg HT.out.rt0 (show 0 ≤ (d : Int) - LA by omega); omega
                · have := Int.mul_nonneg HT.out.rt0 (show 0 ≤ (d : Int) by omega); omega
              have hcn2 := cand_none2 (st := st) (sz := sz) (rt := rt) (hd := hd) (cap := cap) (P := P) (n := n) (d := d) (last := LA) (f := stp st sz rt hd cap P n)
              have hcs := cand_some (hd := hd) (P := P) HB1.out.symm (st := st) (sz := sz) (rt := rt) (cap := cap) (n := n) (d := d)
              obtain ⟨PV, hPV⟩ : ∃ PV, PV = (if 0 ≤ LA then ((stp st sz rt hd cap P n LA.toNat).getD (0, 0)).1 else 0) := ⟨_, rfl⟩
              obtain ⟨PR, hPR⟩ : ∃ PR, PR = (if d < n then priceAt P (d : Int) else 0) := ⟨_, rfl⟩
              rw [← hPV, ← hPR] at hcs
              have hPVb : -10000000000 ≤ PV ∧ PV ≤ 10000000000 := by
                rw [hPV]
                split
                · cases hx : stp st sz rt hd cap P n LA.toNat with
                  | none => simp
                  | some y =>
                    have := stp_bd HT.out HPb.out LA.toNat (by omega) y hx
                    simp only [Option.getD_some]
                    omega
                · omega
              have hPRb : 0 ≤ PR ∧ PR ≤ 1000 := by
                rw [hPR]
                split
                · exact HPb.out _
                · omega
              generalize thereI st sz rt d LA = TH at *
              generalize heldI st sz rt hd d LA = HH at *
              obtain ⟨B2, hB2⟩ : ∃ B2, B2 = (decide (TH < 0) || (decide (d < n) && (mostI sz 1 TH cap == 0))) := ⟨_, rfl⟩
              rw [← hB2] at hcn2 hcs
              have Hcn2 : Hid (B2 = true → candE st sz rt hd cap P n (stp st sz rt hd cap P n) d ((j : Int) - 1) = none) := Lib.hid (by rw [HLA.out]; exact hcn2)
              have Hcs : Hid (B2 = false → candE st sz rt hd cap P n (stp st sz rt hd cap P n) d ((j : Int) - 1) = some (HH + PV + PR, LA)) := Lib.hid (by rw [HLA.out]; exact hcs)
              have HB2 := Lib.hid hB2
              have HPV := Lib.hid hPV
              have HPR := Lib.hid hPR
              have HR := Lib.hid hR
              clear hR hcn2 hcs hPV hPR hB2
              go_wp2_with fail
              refine HR.out.mono ?_
              rintro e w3 ⟨rfl, hb3⟩
              have hs3 : FillSt w1 gs (stepF st sz rt hd cap P n d j) w3 := ⟨Hs.out.steps.below hb3, Hs.out.below.trans (hb3.mono (by omega))⟩
              have Hs3 := Lib.hid hs3
              have hl3 := hs3.steps.lt
              obtain ⟨d0, d1, d2, d3, d4, d5, d6, d7⟩ : IsCust w3 g kd dm pt rt sz st 1 hd := IsCust.below ⟨d0, d1, d2, d3, d4, d5, d6, d7⟩ hb3
              clear hs3 hb3
              go_upto_region 11 with fail
              go_cut [60] (fun s60 wx => s60 = .bool B2 ∧ Below w3.heap.size w3 wx)
              case first =>
                by_cases hT0 : TH < 0
                · have hT0' : decide (TH < 0) = true := by simpa using hT0
                  have hB : Hid (B2 = true) := Lib.hid (by rw [HB2.out, hT0', Bool.true_or])
                  clear hT0
                  go_wp2_with fail
                  go_meet
                  exact ⟨by rw [hB.out], Below.refl _ _⟩
                · have hT0' : decide (TH < 0) = false := by simpa using hT0
                  by_cases hdn : d < n
                  · have hdn' : (d : Int) < (n : Int) := by omega
                    have hM := Lib.hid (most_is kd dm pt rt sz st 1 hd TH cap w3 (by have := HT.out.sz0; omega) (by have := HT.out.sz1; omega) (by omega) (by omega))
                    have hB : Hid (B2 = (mostI sz 1 TH cap == 0)) := Lib.hid (by rw [HB2.out, hT0', decide_eq_true hdn, Bool.false_or, Bool.true_and])
                    generalize mostI sz 1 TH cap = M at *
                    clear hT0
                    go_wp2_with fail
                    refine hM.out.mono ?_
                    rintro e w4 ⟨rfl, hb4⟩
                    go_wp2_with fail
                    go_meet
                    exact ⟨by rw [hB.out], hb4⟩
                  · have hdn' : decide ((d : Int) < (n : Int)) = false := by simp; omega
                    have hdn2 : decide (d < n) = false := by simpa using hdn
                    have hB : Hid (B2 = false) := Lib.hid (by rw [HB2.out, hT0', decide_eq_false hdn, Bool.false_or, Bool.false_and])
                    clear hT0 hdn
                    go_wp2_with fail
                    go_meet
                    exact ⟨by rw [hB.out], Below.refl _ _⟩
              case rest =>
                obtain ⟨rfl, hb4⟩ := hcut
                obtain ⟨w4, rfl⟩ : ∃ w4 : World, w4 = wc := ⟨_, rfl⟩
                have hs4 : FillSt w1 gs (stepF st sz rt hd cap P n d j) w4 := ⟨Hs3.out.steps.below hb4, Hs3.out.below.trans (hb4.mono (by omega))⟩
                have Hs4 := Lib.hid hs4
                cases B2 with
                | true =>
                  have Hnx : Hid (FillSt w1 gs (stepF st sz rt hd cap P n d (j + 1)) w4) := Lib.hid ⟨hs4.steps.congr (fun i _ => stepF_skip (Hcn2.out rfl) i), hs4.below⟩
                  clear hs4 hb4
                  go_wp2_with fail
                  go_roundw
                  case rel => exact ⟨j + 1, by have := HLA.out; omega, by rw [← HLA.out]; go_num, Hnx.out⟩
                  case measure => have := HLA.out; have := hlj; have := hlm; simp [intOf]; omega
                | false =>
                  have hl4 := hs4.steps.lt
                  obtain ⟨d0, d1, d2, d3, d4, d5, d6, d7⟩ : IsCust w4 g kd dm pt rt sz st 1 hd := IsCust.below ⟨d0, d1, d2, d3, d4, d5, d6, d7⟩ hb4
                  obtain ⟨w5, ew5⟩ : ∃ w5, w4.alloc (.cells #[.bool true, .int .i64 HH, .int .i64 LA] 151) = w5 := ⟨_, rfl⟩
                  obtain ⟨g5, eg5⟩ : ∃ g5, w4.heap.size = g5 := ⟨_, rfl⟩
                  have hblk : BlkSt w1 gs g5 (stepF st sz rt hd cap P n d j) HH LA w5 := by
                    rw [← ew5, ← eg5]
                    exact ⟨⟨hs4.steps.below (belAlloc _ _), hs4.below.alloc (by omega) _⟩, by simp [go_sem], by simp [go_sem], by simp [go_sem], by simp [go_sem], hl4⟩
                  have Hblk := Lib.hid hblk
                  have Hew5 := Lib.hid ew5
                  have Hcand := Lib.hid (Hcs.out rfl)
                  have hb5 : Below w4.heap.size w4 w5 := by rw [← ew5]; exact belAlloc _ _
                  clear hs4 hb4 ew5 hblk d0 d1 d2 d3 d4 d5 d6 d7 hb5
                  go_upto_if 65 with fail
                  rw [Hew5.out]
                  have hl5 : gs < w5.heap.size := Hblk.out.fill.steps.lt
                  go_cut [12] (fun s12 wx => s12 = .int .i64 LA ∧ BlkSt w1 gs g5 (stepF st sz rt hd cap P n d j) (HH + PV) LA wx)
                  case first =>
                    by_cases h0 : 0 ≤ LA
                    · obtain ⟨l, rfl⟩ := Int.eq_ofNat_of_zero_le h0
                      have hl65 : l < 65 := by omega
                      have k1 := Hblk.out.fill.steps.c1 l hl65
                      have hst : stepF st sz rt hd cap P n d j l = stp st sz rt hd cap P n l := by unfold stepF; rw [if_pos (by omega)]
                      have hpv := HPV.out
                      rw [if_pos h0, Int.toNat_natCast] at hpv
                      rw [hst, ← hpv] at k1
                      have b1 := Hblk.out.b1
                      have bf := Hblk.out.fr
                      have h0' : decide (0 ≤ (l : Int)) = true := by simp
                      have hi1 : (l : Int) < 65 := by omega
                      have hw : IntKind.i64.wrap (HH + PV) = HH + PV := IntWalk.i64_in _ (by omega)
                      have hw2 : wrap64 (HH + PV) = HH + PV := wrap_id (by omega) (by omega)
                      clear hst hpv
                      go_upto_region 14 with fail
                      go_region
                      all_goals
                        go_wp2_with fail
                        go_meet
                        exact ⟨rfl, by first | exact Hblk.out.cost _ | exact (Hblk.out.cost _).drewN 1⟩
                    · have h0' : decide (0 ≤ LA) = false := by simpa using h0
                      have hpv : Hid (HH + PV = HH) := Lib.hid (by rw [HPV.out, if_neg h0]; omega)
                      clear h0
                      rw [h0']
                      go_wp2_with fail
                      go_meet
                      exact ⟨rfl, by rw [hpv.out]; exact Hblk.out⟩
                  case rest =>
                    obtain ⟨rfl, hblk⟩ := hcut
                    obtain ⟨w6, rfl⟩ : ∃ w6 : World, w6 = wc := ⟨_, rfl⟩
                    have Hblk6 := Lib.hid hblk
                    obtain ⟨C6, hC6⟩ : ∃ C6, C6 = HH + PV := ⟨_, rfl⟩
                    rw [← hC6] at Hblk6 Hcand
                    have hP6 : Ints w6 pv P := HP.out.below (by rw [Hes.out]; exact hblk.fill.below)
                    have Hpr := Lib.hid (fun (W : World) (h : Below w6.heap.size w6 W) => priceOf_is pv P d W (hP6.below h))
                    have b1 := hblk.b1
                    rw [← hC6] at b1
                    have bf := hblk.fr
                    have hC6b : -20000000000 ≤ C6 ∧ C6 ≤ 20000000000 := by omega
                    clear hblk hC6 hP6 hl5
                    go_upto_if 76 with fail
                    go_cut [12] (fun s12 wx => s12 = .int .i64 LA ∧ BlkSt w1 gs g5 (stepF st sz rt hd cap P n d j) (C6 + PR) LA wx)
                    case first =>
                      by_cases hdn : d < n
                      · have hdn' : decide ((d : Int) < (n : Int)) = true := by simp; omega
                        have hpr := HPR.out
                        rw [if_pos hdn] at hpr
                        rw [← hpr] at Hpr
                        have hw : IntKind.i64.wrap (C6 + PR) = C6 + PR := IntWalk.i64_in _ (by omega)
                        have hdn2 : decide (d < n) = true := by simpa using hdn
                        clear hpr hdn
                        first | rw [hdn2] | rw [hdn']
                        go_upto_region 16 with fail
                        go_region_law (first
                          | (refine step_wanted (by rfl) ?_; go_simp; go_at_call 85; refine (Hpr.out _ ?_).mono ?_; (first | exact Below.refl _ _ | exact belDrew _); rintro e w7 ⟨rfl, rfl⟩))
                        all_goals
                          go_wp2_with fail
                          go_meet
                          exact ⟨rfl, by first | exact Hblk6.out.cost _ | exact (Hblk6.out.cost _).drewN 1 | exact (Hblk6.out.drewN 1).cost _⟩
                      · have hdn' : decide ((d : Int) < (n : Int)) = false := by simp; omega
                        have hpr : Hid (C6 + PR = C6) := Lib.hid (by rw [HPR.out, if_neg hdn]; omega)
                        have hdn2 : decide (d < n) = false := by simpa using hdn
                        clear hdn
                        first | rw [hdn2] | rw [hdn']
                        go_wp2_with fail
                        go_meet
                        exact ⟨rfl, by rw [hpr.out]; exact Hblk6.out⟩
                    case rest =>
                      obtain ⟨rfl, hblk⟩ := hcut
                      obtain ⟨w7, rfl⟩ : ∃ w7 : World, w7 = wc := ⟨_, rfl⟩
                      have Hblk7 := Lib.hid hblk
                      obtain ⟨C, hC⟩ : ∃ C, C = C6 + PR := ⟨_, rfl⟩
                      rw [← hC] at Hblk7 Hcand
                      have q0 := hblk.b0
                      have q1 := hblk.b1
                      rw [← hC] at q1
                      have q2 := hblk.b2
                      have k0 := hblk.fill.steps.c0 d (by omega)
                      have k1 := hblk.fill.steps.c1 d (by omega)
                      have k2 := hblk.fill.steps.c2 d (by omega)
                      have kf0 := hblk.fill.steps.fr (d * 3)
                      have kf1 := hblk.fill.steps.fr (d * 3 + 1)
                      have kf2 := hblk.fill.steps.fr (d * 3 + 2)
                      have hst : stepF st sz rt hd cap P n d j d = stepUpto st sz rt hd cap P n (stp st sz rt hd cap P n) d j := by unfold stepF; rw [if_neg (by omega), if_pos rfl]
                      rw [hst] at k0 k1 k2
                      have hi1 : (d : Int) < 65 := by omega
                      have hi0 : (0 : Int) ≤ (d : Int) := by omega
                      have hgne : gs ≠ g5 := by have := hblk.gt; omega
                      obtain ⟨B3, hB3⟩ : ∃ B3, B3 = (match stepUpto st sz rt hd cap P n (stp st sz rt hd cap P n) d j with | none => true | some y => decide (C < y.1)) := ⟨_, rfl⟩
                      have hyes : B3 = true → ∀ i, (if i = d then some (C, LA) else stepF st sz rt hd cap P n d j i) = stepF st sz rt hd cap P n d (j + 1) i := fun h i => by
                        refine stepF_yes Hcand.out (fun y hy => ?_) i
                        rw [hB3, hy] at h
                        simpa using h
                      have hno : B3 = false → ∀ i, stepF st sz rt hd cap P n d j i = stepF st sz rt hd cap P n d (j + 1) i := fun h i => by
                        cases hy : stepUpto st sz rt hd cap P n (stp st sz rt hd cap P n) d j with
                        | none => rw [hB3, hy] at h; simp at h
                        | some y =>
                          refine stepF_no Hcand.out hy ?_ i
                          rw [hB3, hy] at h
                          simpa using h
                      have Hyes := Lib.hid hyes
                      have Hno := Lib.hid hno
                      have HB3 := Lib.hid hB3
                      clear hyes hno hB3 hst hC
                      go_upto_region 17 with fail
                      go_cut [97] (fun s97 wx => s97 = .bool B3 ∧ BlkSt w1 gs g5 (stepF st sz rt hd cap P n d j) C LA wx)
                      case first =>
                        have hB := HB3.out
                        cases hy : stepUpto st sz rt hd cap P n (stp st sz rt hd cap P n) d j with
                        | none =>
                          rw [hy] at k0 k1 k2 hB
                          have k0 : w7.cell? ⟨gs, d * 3, none⟩ = some (.bool false) := k0
                          have k1 : w7.cell? ⟨gs, d * 3 + 1, none⟩ = some (.int .i64 0) := k1
                          have k2 : w7.cell? ⟨gs, d * 3 + 2, none⟩ = some (.int .i64 0) := k2
                          have hB : Hid (B3 = true) := Lib.hid hB
                          clear hy
                          go_quiet (fail)
                          go_wp2_with fail
                          go_meet
                          exact ⟨by rw [hB.out], Hblk7.out.drewN _⟩
                        | some y =>
                          rw [hy] at k0 k1 k2 hB
                          have k0 : w7.cell? ⟨gs, d * 3, none⟩ = some (.bool true) := k0
                          have k1 : w7.cell? ⟨gs, d * 3 + 1, none⟩ = some (.int .i64 y.1) := k1
                          have k2 : w7.cell? ⟨gs, d * 3 + 2, none⟩ = some (.int .i64 y.2) := k2
                          have hB : Hid (B3 = decide (C < y.1)) := Lib.hid hB
                          clear hy
                          cases hcy : decide (C < y.1) with
                          | true =>
                            rw [hcy] at hB
                            go_quiet (fail)
                            go_wp2_with fail
                            go_meet
                            exact ⟨by rw [hB.out], Hblk7.out.drewN _⟩
                          | false =>
                            rw [hcy] at hB
                            go_quiet (fail)
                            go_wp2_with fail
                            go_meet
                            exact ⟨by rw [hB.out], Hblk7.out.drewN _⟩
                      case rest =>
                        obtain ⟨rfl, hblk8⟩ := hcut
                        obtain ⟨w8, rfl⟩ : ∃ w8 : World, w8 = wc := ⟨_, rfl⟩
                        cases B3 with
                        | true =>
                          have q0 := hblk8.b0
                          have q1 := hblk8.b1
                          have q2 := hblk8.b2
                          have k0 := hblk8.fill.steps.c0 d (by omega)
                          have k1 := hblk8.fill.steps.c1 d (by omega)
                          have k2 := hblk8.fill.steps.c2 d (by omega)
                          have kf0 := hblk8.fill.steps.fr (d * 3)
                          have kf1 := hblk8.fill.steps.fr (d * 3 + 1)
                          have kf2 := hblk8.fill.steps.fr (d * 3 + 2)
                          have hnx : FillSt w1 gs (stepF st sz rt hd cap P n d (j + 1)) (((w8.setCell ⟨gs, d * 3, none⟩ (.bool true)).setCell ⟨gs, d * 3 + 1, none⟩ (.int .i64 C)).setCell ⟨gs, d * 3 + 2, none⟩ (.int .i64 LA)) :=
                            ⟨(hblk8.fill.steps.set d (by omega) C LA).congr (fun i _ => Hyes.out rfl i), ((hblk8.fill.below.setCell (p := ⟨gs, d * 3, none⟩) (Nat.le_refl _) _).setCell (p := ⟨gs, d * 3 + 1, none⟩) (Nat.le_refl _) _).setCell (p := ⟨gs, d * 3 + 2, none⟩) (Nat.le_refl _) _⟩
                          have Hnx := Lib.hid hnx
                          clear hnx hblk8
                          go_wp2_with fail
                          go_roundw
                          case rel => exact ⟨j + 1, by have := HLA.out; omega, by rw [← HLA.out]; go_num, Hnx.out⟩
                          case measure => have := HLA.out; have := hlj; have := hlm; simp [intOf]; omega
                        | false =>
                          have Hnx : Hid (FillSt w1 gs (stepF st sz rt hd cap P n d (j + 1)) w8) := Lib.hid ⟨hblk8.fill.steps.congr (fun i _ => Hno.out rfl i), hblk8.fill.below⟩
                          clear hblk8
                          go_wp2_with fail
                          go_roundw
                          case rel => exact ⟨j + 1, by have := HLA.out; omega, by rw [← HLA.out]; go_num, Hnx.out⟩
                          case measure => have := HLA.out; have := hlj; have := hlm; simp [intOf]; omega
        · have hjd : j = d + 1 := by omega
          have hlj' : decide ((j : Int) - 1 < (d : Int)) = false := by simpa using hlj
          have Hend : Hid (FillSt w1 gs (doneF st sz rt hd cap P n (d + 1)) wr) := Lib.hid ⟨hs.steps.congr (fun i _ => by rw [hjd]; exact stepF_end _ _ _ _ _ _ _ _ _), hs.below⟩
          clear hs hlj hjd
          go_wp2_with fail
          go_roundw
          case rel => exact ⟨d + 1, by omega, by go_num, Hend.out⟩
          case measure => simp [intOf]; omega
    · have hdn : d = n + 1 := by omega
      obtain ⟨wo, rfl⟩ : ∃ wo : World, wo = wr := ⟨_, rfl⟩
      have Hs := Lib.hid hs
      have hlo := hs.steps.lt
      have hFn : ∀ i, i ≤ n → doneF st sz rt hd cap P n d i = stp st sz rt hd cap P n i := fun i hi => by unfold doneF; rw [if_pos (by omega)]
      have HFn := Lib.hid hFn
      have k0 := hs.steps.c0 n (by omega)
      have k1 := hs.steps.c1 n (by omega)
      have k2 := hs.steps.c2 n (by omega)
      rw [hFn n (Nat.le_refl n)] at k0 k1 k2
      have hi0 : (0 : Int) ≤ (n : Int) := by omega
      have hi1 : (n : Int) < 65 := by omega
      obtain ⟨c0, c1, c2, c3, c4, c5, c6, c7⟩ : IsCust wo g kd dm pt rt sz st 1 hd :=
        ⟨cell_lt hs.below hl1 c0, cell_lt hs.below hl1 c1, cell_lt hs.below hl1 c2, cell_lt hs.below hl1 c3, cell_lt hs.below hl1 c4, cell_lt hs.below hl1 c5, cell_lt hs.below hl1 c6, cell_lt hs.below hl1 c7⟩
      have hsf := HT.out.st0
      have Hat := Lib.hid (fun s (h : stp st sz rt hd cap P n n = some s) => stp_at (hd := hd) (cap := cap) (P := P) HT.out.st0 (by have := HT.out.sz0; omega) HT.out.rt0 (by omega) n (Nat.le_refl n) s h)
      have HBw : Hid (Below w.heap.size w wo) := Lib.hid (by rw [Heg.out]; exact hb1.trans (hs.below.mono (by omega)))
      have hge : decide ((d : Int) < (n : Int) + 1) = false := by simp; omega
      have hge2 : decide (d < n + 1) = false := by simpa using hlt
      clear hFn hs hdn hd1
      cases hst : stp st sz rt hd cap P n n with
      | none =>
        rw [hst] at k0 k1 k2
        have k0 : wo.cell? ⟨gs, n * 3, none⟩ = some (.bool false) := k0
        have k1 : wo.cell? ⟨gs, n * 3 + 1, none⟩ = some (.int .i64 0) := k1
        have k2 : wo.cell? ⟨gs, n * 3 + 2, none⟩ = some (.int .i64 0) := k2
        have Hst := Lib.hid hst
        clear hst
        go_wp2_with fail
        go_ret2
        exact .inl ⟨Hst.out, _, rfl, OwnV.nil _ _, HBw.out⟩
      | some s =>
        rw [hst] at k0 k1 k2
        have k0 : wo.cell? ⟨gs, n * 3, none⟩ = some (.bool true) := k0
        have k1 : wo.cell? ⟨gs, n * 3 + 1, none⟩ = some (.int .i64 s.1) := k1
        have k2 : wo.cell? ⟨gs, n * 3 + 2, none⟩ = some (.int .i64 s.2) := k2
        obtain ⟨S, hbit, hok, _, hcost, hlast, hch⟩ := Hat.out s hst
        rw [if_neg (Nat.lt_irrefl n), Int.add_zero] at hcost
        have hS64 := set_lt (by omega) hbit
        have Hfill := Lib.hid (fun (W : World) => filled_is kd dm pt rt sz st 1 hd S W HT.out hS64)
        rw [← fillV_eq (by omega) hbit (fun k hk => (hok k hk).1)] at Hfill
        have Hfin := Lib.hid (fun (e : Ending) (w' : World) (h : SolveOut w (visitsOf (fillQ st sz rt S n)) true e w') => (Or.inr ⟨s, S, hst, hbit, hok, hcost, h⟩ : FillPost st sz rt hd cap P n w e w'))
        have Hch := Lib.hid hch
        have HS64 := Lib.hid hS64
        have hlb := lastOf_bd S n
        have hlbit : 0 ≤ s.2 → S.testBit s.2.toNat = true := fun h => by rw [← hlast] at h ⊢; exact lastOf_bit S n h
        rw [hlast] at hlb
        have Hstart : Hid (∀ k, k < 64 → (0 : Nat).testBit k = (S.testBit k && decide (s.2 < (k : Int)))) := Lib.hid (fun k hk => by
          rw [Nat.zero_testBit]
          by_cases h1 : k < n
          · by_cases h2 : s.2 < (k : Int)
            · rw [lastOf_gap S n k (by rw [hlast]; exact h2) h1]; rfl
            · rw [decide_eq_false h2, Bool.and_false]
          · rw [hbit k (by omega)]; rfl)
        have Hlbit := Lib.hid hlbit
        generalize visitsOf (fillQ st sz rt S n) = V at *
        clear hst hbit hok hcost hlast hch hS64 hlbit Hat
        go_wp2_with fail
        go_loopw [16, 17] (fun f dv wq => ∃ (F : Nat) (D : Int), f = .int .u64 (F : Int) ∧ dv = .int .i64 D ∧ -1 ≤ D ∧ D < n ∧ (0 ≤ D → S.testBit D.toNat = true) ∧ F < 18446744073709551616 ∧ (∀ k, k < 64 → F.testBit k = (S.testBit k && decide (D < (k : Int)))) ∧ wq = wo) (fun _ dv _ => (intOf dv + 1).toNat)
        case atStart => exact ⟨0, s.2, rfl, rfl, hlb.1, hlb.2, Hlbit.out, by decide, Hstart.out, rfl⟩
        case round =>
          obtain ⟨F, D, rfl, rfl, hD1, hD2, hDb, hF, hFb, rfl⟩ := hrel
          have HDb := Lib.hid hDb
          have HFb := Lib.hid hFb
          have HF := Lib.hid hF
          clear hDb hFb hF
          by_cases h0 : 0 ≤ D
          · obtain ⟨l, rfl⟩ := Int.eq_ofNat_of_zero_le h0
            have hbl := HDb.out h0
            rw [Int.toNat_natCast] at hbl
            obtain ⟨c, hc⟩ := Hch.out l hbl
            have z2 := Hs.out.steps.c2 l (by omega)
            rw [HFn.out l (by omega), hc] at z2
            have z3 : wr.cell? ⟨gs, l * 3 + 2, none⟩ = some (.int .i64 (lastOf S l)) := z2
            clear z2
            have hlb2 := lastOf_bd S l
            have hlbit2 := lastOf_bit S l
            have hgap := lastOf_gap S l
            obtain ⟨D2, hD2'⟩ : ∃ D2, D2 = lastOf S l := ⟨_, rfl⟩
            rw [← hD2'] at z3 hlb2 hlbit2 hgap
            have hw := Lib.hid (with_lt (l : Int) HF.out)
            have HFb2 : Hid (∀ k, k < 64 → (withN F (l : Int)).testBit k = (S.testBit k && decide (D2 < (k : Int)))) := Lib.hid (fun k hk => by
              rw [test_with F l k (by omega), HFb.out k hk]
              rcases Nat.lt_trichotomy k l with h | h | h
              · rw [decide_eq_false (show ¬ (l : Int) < (k : Int) by omega), decide_eq_false (show ¬ l = k by omega), Bool.and_false, Bool.or_false]
                by_cases h2 : D2 < (k : Int)
                · rw [hgap k h2 h]; rfl
                · rw [decide_eq_false h2, Bool.and_false]
              · subst h
                rw [hbl, decide_eq_true (show D2 < (k : Int) by omega)]
                simp
              · rw [decide_eq_true (show (l : Int) < (k : Int) by omega), decide_eq_false (show ¬ l = k by omega), decide_eq_true (show D2 < (k : Int) by omega), Bool.or_false])
            have Hlbit2 := Lib.hid hlbit2
            have Hw := Lib.hid (with_is F (l : Int) wr HF.out)
            have hl65 : (l : Int) < 65 := by omega
            clear hbl hc hgap hlbit2 hD2'
            go_wp2_with fail
            refine Hw.out.mono ?_
            rintro e w3 ⟨rfl, rfl⟩
            go_wp2_with fail
            go_roundw
            case rel => exact ⟨_, D2, rfl, rfl, hlb2.1, by omega, Hlbit2.out, hw.out, HFb2.out, by first | rfl | trivial⟩
            case measure => simp [intOf]; omega
          · have h0' : decide (0 ≤ D) = false := by simpa using h0
            have HFS : Hid (F = S) := Lib.hid (set_ext HF.out HS64.out (fun k hk => by rw [HFb.out k hk, decide_eq_true (show D < (k : Int) by omega), Bool.and_true]))
            clear h0
            go_wp2_with fail
            rw [HFS.out]
            refine (Hfill.out _).mono ?_
            rintro e w3 ⟨v, rfl, hown, hb3⟩
            have hb4 := HBw.out.trans (hb3.mono HBw.out.size)
            have Hown := Lib.hid (hown.mono HBw.out.size)
            clear hown hb3
            go_wp2_with fail
            go_ret2
            exact Hfin.out _ _ ⟨v, rfl, Hown.out, hb4⟩
end Go.Proofs.YtnhcgpkcmfelkaaGreat
