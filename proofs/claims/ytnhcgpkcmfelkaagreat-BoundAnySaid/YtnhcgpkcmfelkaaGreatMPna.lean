/-
  My own work: tranterref11.Any: its contract.
  My own work: plans, plainly: no plan that may be costs less than the bounds by prices, nor than the base.
  My own work: plans, plainly: no plan that may be costs less than the bounds (the law).
  My own work: plans read out of memory; tranterref12.Load, tranterref12.twice: their contracts.
  My own work: tranterref12.May: its contract, as far as plans need it.
  My own work: tranterref12.Day, tranterref12.Cost: their contracts, as far as plans need them.
  My own work: tranterref08.Visits: its contract.
  My own work: tranterref16.put: its contract: a day that may be read comes back.
  My own work: tranterref16.visits: its contract, as far as plans need it.
  My own work: tranterref16.Made: its contract: a plan that may be read comes back, or none.
  My own work: tranterref16.Made: its contract (the walk).
-/
import Derived.Test.YtnhcgpkcmfelkaaGreatMAm
import Derived.Test.YtnhcgpkcmfelkaaGreatPolicyF
import Derived.Test.YtnhcgpkcmfelkaaGreatPolicyH
import Derived.Test.YtnhcgpkcmfelkaaGreatMBd
import Derived.Test.YtnhcgpkcmfelkaaGreatMTour
import Derived.Test.YtnhcgpkcmfelkaaGreatBdG
import Derived.Deep.DrawnRows
import Derived.Test.YtnhcgpkcmfelkaaGreatMVis
import Derived.Laws.AppendOwnNone
import Derived.Test.YtnhcgpkcmfelkaaGreatAloneAC
import Derived.Test.YtnhcgpkcmfelkaaGreatTourC
import Derived.Deep.RegionWith
namespace Go.Proofs.YtnhcgpkcmfelkaaGreat
section
open Go.RowKit
set_option linter.unusedVariables false
set_option maxRecDepth 100000
attribute [local go_sem ↓] Go.wp_at_zero Go.wp_at_succ

set_option maxHeartbeats 3200000 in
theorem refAny_is (dm : Int) (pt pv : Value) (rt sz st hd cap : Int) (n : Nat) (P : List Int) (w : World) (T : TankOk st rt sz 2 hd) (hn : n ≤ 20) (hP : Ints w pv P) (hPb : ∀ d, 0 ≤ priceAt P d ∧ priceAt P d ≤ 1000) :
    Calls Tryz.prog 65 #[.agg #[.int .i64 2, .int .i64 dm, pt, .int .i64 rt, .int .i64 sz, .int .i64 st, .int .i64 2, .int .i64 hd], .int .i64 n, .int .i64 cap, pv] w (SolveOut w (anyV st sz rt hd cap P n) (anyB st sz rt hd cap P n)) := by
  obtain ⟨w1, ew, hb1, hsz1, hcu⟩ := box_cust w 2 dm pt rt sz st 2 hd
  have z0 := T.sz0; have z1 := T.sz1; have z2 := T.st0; have z3 := T.st1; have z4 := T.rt0; have z5 := T.rt1
  have HD := Lib.hid (fun (W : World) => refDaily_is 2 dm pt rt sz st 2 hd n cap W (by omega) (by omega) (by omega) (by omega) (by omega) (by omega) (by omega))
  have HL := Lib.hid (fun (W : World) => refLate_is 2 dm pt rt sz st 2 hd n cap W (by omega) (by omega) (by omega) (by omega) (by omega) (by omega) (by omega))
  have HP := Lib.hid (hP.below hb1)
  have HC := Lib.hid (fun (W : World) (vv : Value) (V : List (Int × Int)) (h : Below w1.heap.size w1 W) (hV : Vis W vv V) (hVl : V.length ≤ 64) (hVf : ∀ p ∈ V, fitsI p.2 = true) => refCost_is 2 dm pt pv vv rt sz st 2 hd n P V W (.inr ⟨rfl, T⟩) hn (HP.out.below h) hPb hV hVl hVf)
  have hvl1 := wayV_len true sz rt cap st n
  have hvl2 := wayV_len false sz rt cap st n
  have hvf1 := wayV_fits (late := true) (rt := rt) (cap := cap) (st := st) (n := n) (show 0 ≤ sz by omega) (by omega)
  have hvf2 := wayV_fits (late := false) (rt := rt) (cap := cap) (st := st) (n := n) (show 0 ≤ sz by omega) (by omega)
  have hAV : anyV st sz rt hd cap P n = if lateB st sz rt hd cap P n = true then wayV true sz rt cap st n else if wayB false sz rt cap st n = true then wayV false sz rt cap st n else [] := rfl
  have hAB : anyB st sz rt hd cap P n = (lateB st sz rt hd cap P n || wayB false sz rt cap st n) := rfl
  have hLB : lateB st sz rt hd cap P n = (wayB true sz rt cap st n && (!wayB false sz rt cap st n || decide (costV 2 st rt sz hd P (wayV true sz rt cap st n) n ≤ costV 2 st rt sz hd P (wayV false sz rt cap st n) n))) := rfl
  rw [hLB] at hAV hAB
  generalize anyV st sz rt hd cap P n = AV at *
  generalize anyB st sz rt hd cap P n = AB at *
  have hq1 : (wayQ false sz 2 rt cap st n).length ≤ 1048576 := by rw [wayQ_len]; omega
  have hq2 : (wayQ true sz 2 rt cap st n).length ≤ 1048576 := by rw [wayQ_len]; omega
  have hD1 : (holdsE st rt sz 2 (wayQ false sz 2 rt cap st n) == 0) = wayB false sz rt cap st n := rfl
  have hL1 : (holdsE st rt sz 2 (wayQ true sz 2 rt cap st n) == 0) = wayB true sz rt cap st n := rfl
  have hkey : wayB true sz rt cap st n = true → wayB false sz rt cap st n = true := fun h => (both_nights rt sz st cap n T.rt0 (by have := T.sz1; omega) T.st0 T.st1 h).1
  unfold WayOut at HD HL
  rw [hD1] at HD
  rw [hL1] at HL
  have hV1 : visitsOf (wayQ false sz 2 rt cap st n) = wayV false sz rt cap st n := rfl
  have hV2 : visitsOf (wayQ true sz 2 rt cap st n) = wayV true sz rt cap st n := rfl
  generalize wayB false sz rt cap st n = ok1 at *
  generalize wayB true sz rt cap st n = ok2 at *
  have HK1 := Lib.hid (fun (W : World) (vv : Value) (h : Below w1.heap.size w1 W) (hV : Vis W vv (wayV true sz rt cap st n)) => HC.out W vv _ h hV (by omega) hvf1)
  have HK2 := Lib.hid (fun (W : World) (vv : Value) (h : Below w1.heap.size w1 W) (hV : Vis W vv (wayV false sz rt cap st n)) => HC.out W vv _ h hV (by omega) hvf2)
  generalize costV 2 st rt sz hd P (wayV true sz rt cap st n) n = kl at *
  generalize costV 2 st rt sz hd P (wayV false sz rt cap st n) n = kd at *
  generalize wayV true sz rt cap st n = LV at *
  generalize wayV false sz rt cap st n = DV at *
  generalize wayQ false sz 2 rt cap st n = DQ at *
  generalize wayQ true sz 2 rt cap st n = LQ at *
  have Hew := Lib.hid ew
  have HAV := Lib.hid hAV
  have HAB := Lib.hid hAB
  have Hq1 := Lib.hid hq1
  have Hq2 := Lib.hid hq2
  have HV1 := Lib.hid hV1
  have HV2 := Lib.hid hV2
  have hsz : w.heap.size ≤ w1.heap.size := hb1.size
  obtain ⟨c0, c1, c2, c3, c4, c5, c6, c7⟩ := hcu
  clear ew hsz1 hP hPb T z0 z1 z2 z3 z4 z5 HC hvl1 hvl2 hvf1 hvf2 hAV hAB hLB hq1 hq2 hD1 hL1 hV1 hV2
  go_enter Tryz.func65, Tryz.ntmps65
  go_upto_region 1 with (fail)
  rw [Hew.out]
  generalize eg : w.heap.size = g at *
  have Heg := Lib.hid eg
  clear eg
  go_wp2_with fail
  refine (HD.out _).mono ?_
  rintro e w2 ⟨qv, rfl, hown, hb2⟩
  have HI2 := Lib.hid hown.ints
  obtain ⟨d0, d1, d2, d3, d4, d5, d6, d7⟩ : IsCust w2 g 2 dm pt rt sz st 2 hd := IsCust.below ⟨c0, c1, c2, c3, c4, c5, c6, c7⟩ hb2
  have Hb2 := Lib.hid hb2
  clear hown hb2 c0 c1 c2 c3 c4 c5 c6 c7
  have Hkey := Lib.hid hkey
  clear hkey
  cases ok1 with
  | false =>
    have h2 : ok2 = false := by
      cases ok2 with
      | false => rfl
      | true => exact absurd (Hkey.out rfl) (by decide)
    rw [h2, Bool.false_and] at HAV HAB
    have HAV2 : Hid (AV = []) := Lib.hid (by rw [HAV.out, if_neg (by decide), if_neg (by decide)])
    have HAB2 : Hid (AB = false) := Lib.hid HAB.out
    clear h2
    go_wp2_with fail
    go_ret2
    rw [HAV2.out, HAB2.out]
    exact ⟨_, rfl, OwnV.nil _ _, by rw [Heg.out]; exact hb1.trans (Hb2.out.mono hsz)⟩
  | true =>
    go_wp2_with fail
    refine (refVisits_is qv DQ w2 HI2.out Hq1.out).mono ?_
    rintro e w3 ⟨dv, rfl, hown3, hb3⟩
    rw [HV1.out] at hown3
    obtain ⟨c0, c1, c2, c3, c4, c5, c6, c7⟩ : IsCust w3 g 2 dm pt rt sz st 2 hd := IsCust.below ⟨d0, d1, d2, d3, d4, d5, d6, d7⟩ hb3
    have Hown3 := Lib.hid hown3
    have Hb3 := Lib.hid (bel2 Hb2.out hb3)
    have hsz3 : w1.heap.size ≤ w3.heap.size := Hb3.out.size
    have hsz23 : w1.heap.size ≤ w2.heap.size := Hb2.out.size
    clear hown3 hb3 d0 d1 d2 d3 d4 d5 d6 d7
    go_wp2_with fail
    refine (HL.out _).mono ?_
    rintro e w4 ⟨rv, rfl, hown4, hb4⟩
    have HI4 := Lib.hid hown4.ints
    obtain ⟨d0, d1, d2, d3, d4, d5, d6, d7⟩ : IsCust w4 g 2 dm pt rt sz st 2 hd := IsCust.below ⟨c0, c1, c2, c3, c4, c5, c6, c7⟩ hb4
    have Hown4 := Lib.hid (Hown3.out.below hb4)
    have Hb4 := Lib.hid (bel2 Hb3.out hb4)
    have hsz4 : w1.heap.size ≤ w4.heap.size := Hb4.out.size
    clear hown4 hb4 c0 c1 c2 c3 c4 c5 c6 c7
    go_wp2_with fail
    refine (refVisits_is rv LQ w4 HI4.out Hq2.out).mono ?_
    rintro e w5 ⟨lv, rfl, hown5, hb5⟩
    rw [HV2.out] at hown5
    have Hown5 := Lib.hid hown5
    have HownD := Lib.hid (Hown4.out.below hb5)
    obtain ⟨c0, c1, c2, c3, c4, c5, c6, c7⟩ : IsCust w5 g 2 dm pt rt sz st 2 hd := IsCust.below ⟨d0, d1, d2, d3, d4, d5, d6, d7⟩ hb5
    have Hb5 := Lib.hid (bel2 Hb4.out hb5)
    have hsz5 : w1.heap.size ≤ w5.heap.size := Hb5.out.size
    clear hown5 hb5 d0 d1 d2 d3 d4 d5 d6 d7
    have HAB2 : Hid (AB = true) := Lib.hid (by rw [HAB.out, Bool.or_true])
    cases ok2 with
    | false =>
      have HAV2 : Hid (AV = DV) := Lib.hid (by have h := HAV.out; simp at h; exact h)
      go_upto_region 7 with fail
      go_quiet (fail)
      go_wp2_with fail
      go_ret2
      rw [HAV2.out, HAB2.out]
      exact ⟨_, rfl, by rw [Heg.out]; exact (HownD.out.below (below_drewN (Below.refl _ _) _)).mono (by omega), by rw [Heg.out]; exact hb1.trans ((below_drewN Hb5.out _).mono hsz)⟩
    | true =>
      rw [Bool.true_and, Bool.not_true, Bool.false_or] at HAV
      have HKl := Lib.hid (fun (W : World) (h : Below w5.heap.size w5 W) => HK1.out W lv (bel2 Hb5.out h) (Hown5.out.vis.below h))
      have HKd := Lib.hid (fun (W : World) (h : Below w5.heap.size w5 W) => HK2.out W dv (bel2 Hb5.out h) (HownD.out.vis.below h))
      have b0 := Below.refl w5.heap.size w5
      obtain ⟨ck, hck⟩ : ∃ ck, ck = decide (kl ≤ kd) := ⟨_, rfl⟩
      have Hck := Lib.hid hck
      rw [← hck] at HAV
      clear hck
      go_upto_region 7 with fail
      go_cut [49] (fun s49 wx => s49 = .bool ck ∧ Below w5.heap.size w5 wx)
      case first =>
        go_region_held3 (fun w' => (w'.cell? ⟨g, 0, none⟩ = some (.int .i64 2) ∧ w'.cell? ⟨g, 1, none⟩ = some (.int .i64 dm) ∧ w'.cell? ⟨g, 2, none⟩ = some pt ∧ w'.cell? ⟨g, 3, none⟩ = some (.int .i64 rt) ∧ w'.cell? ⟨g, 4, none⟩ = some (.int .i64 sz) ∧ w'.cell? ⟨g, 5, none⟩ = some (.int .i64 st) ∧ w'.cell? ⟨g, 6, none⟩ = some (.int .i64 2) ∧ w'.cell? ⟨g, 7, none⟩ = some (.int .i64 hd)))
          (first | go_keep | exact cust8_below b1 ⟨c0, c1, c2, c3, c4, c5, c6, c7⟩ | exact cust8_below b2 ⟨c0, c1, c2, c3, c4, c5, c6, c7⟩)
          (first
            | (go_at_call_of 87 lv; refine (HKl.out _ ?_).mono ?_; (first | exact b2 | exact bel2 b2 (belDrew _) | exact b0 | exact belDrew _); rintro e w6 ⟨rfl, hb6⟩; (first | have b1 := bel2 b2 hb6 | have b1 := bel2 (bel2 b2 (belDrew _)) hb6 | have b1 := bel2 b0 hb6 | have b1 := bel2 (belDrew w5) hb6))
            | (go_at_call_of 87 dv; refine (HKd.out _ ?_).mono ?_; (first | exact b1 | exact bel2 b1 (belDrew _) | exact b0 | exact belDrew _); rintro e w7 ⟨rfl, hb7⟩; (first | have b2 := bel2 b1 hb7 | have b2 := bel2 (bel2 b1 (belDrew _)) hb7 | have b2 := bel2 b0 hb7 | have b2 := bel2 (belDrew w5) hb7)))
        all_goals
          go_wp2_with fail
          go_meet
          exact ⟨by rw [Hck.out], by first | exact b2 | exact b2.drew | exact b1 | exact b1.drew⟩
      case rest =>
        obtain ⟨rfl, hbc⟩ := hcut
        obtain ⟨w8, rfl⟩ : ∃ w8 : World, w8 = wc := ⟨_, rfl⟩
        have Hb8 := Lib.hid (bel2 Hb5.out hbc)
        have HownL := Lib.hid (Hown5.out.below hbc)
        have HownD2 := Lib.hid (HownD.out.below hbc)
        clear hbc c0 c1 c2 c3 c4 c5 c6 c7
        cases ck with
        | true =>
          have HAV2 : Hid (AV = LV) := Lib.hid (by rw [HAV.out, if_pos rfl])
          go_wp2_with fail
          go_ret2
          rw [HAV2.out, HAB2.out]
          exact ⟨_, rfl, by rw [Heg.out]; exact HownL.out.mono (by omega), by rw [Heg.out]; exact hb1.trans (Hb8.out.mono hsz)⟩
        | false =>
          have HAV2 : Hid (AV = DV) := Lib.hid (by rw [HAV.out, if_neg (by decide)]; simp)
          go_wp2_with fail
          go_ret2
          rw [HAV2.out, HAB2.out]
          exact ⟨_, rfl, by rw [Heg.out]; exact HownD2.out.mono (by omega), by rw [Heg.out]; exact hb1.trans (Hb8.out.mono hsz)⟩
end

section
open Go.RowKit
set_option linter.unusedVariables false
set_option maxRecDepth 100000

def nthD (P : List (List (List (Int × Int)))) (d : Nat) : List (List (Int × Int)) := P.getD d []
/-- A customer's stops, with their day. -/
def selD (i d : Int) (xs : List (Int × Int)) : List (Int × Int) := (xs.filter (fun s => decide (s.1 = i))).map (fun s => (d, s.2))
theorem selD_append (i d : Int) (xs ys : List (Int × Int)) : selD i d (xs ++ ys) = selD i d xs ++ selD i d ys := by simp [selD]
theorem selD_one (i d : Int) (s : Int × Int) : selD i d [s] = if s.1 = i then [(d, s.2)] else [] := by
  unfold selD
  by_cases h : s.1 = i <;> simp [h]
/-- A customer's visits of the first days. -/
def visTo (i : Int) (P : List (List (List (Int × Int)))) : Nat → List (Int × Int)
  | 0 => []
  | d + 1 => visTo i P d ++ selD i d (nthD P d).flatten

structure TourD (N : Nat) (cap : Int) (r : List (Int × Int)) : Prop where
  some : 0 < r.length
  ok : ∀ s ∈ r, 0 ≤ s.1 ∧ s.1 < N ∧ 1 ≤ s.2 ∧ s.2 ≤ 2147483648
  once : (r.map (·.1)).Nodup
  load : (r.map (·.2)).sum ≤ cap
structure DayD (N : Nat) (cap : Int) (T : List (List (Int × Int))) : Prop where
  tour : ∀ r ∈ T, TourD N cap r
  once : (T.flatten.map (·.1)).Nodup
def CustD (n : Nat) (C : Cu) (V : List (Int × Int)) : Prop :=
  (C.kd = 1 ∧ (∀ p ∈ V, p.2 = C.dm) ∧ V.foldl (fun s p => withN s p.1) 0 ∈ C.ps) ∨ (C.kd = 2 ∧ holdsE C.st C.rt C.sz C.ru (bringsOf V n) = 0)
structure PlanD (n : Nat) (cap : Int) (L : List Cu) (P : List (List (List (Int × Int)))) : Prop where
  len : P.length = n
  day : ∀ d, d < n → DayD L.length cap (nthD P d)
  cust : ∀ i, i < L.length → CustD n (nthC L i) (visTo i P n)
def heldC (n : Nat) (C : Cu) (V : List (Int × Int)) : Int := if C.kd = 1 then 0 else C.hd * (nightsE C.st C.rt C.sz (bringsOf V n)).2.sum
def wayP (D : List (List Int)) (T : List (List (Int × Int))) : Int := (T.map (fun r => wayI D (r.map (·.1)))).sum
def costP (D : List (List Int)) (n : Nat) (L : List Cu) (P : List (List (List (Int × Int)))) : Int :=
  sumUpto (fun i => heldC n (nthC L i) (visTo i P n)) L.length + wayP D P.flatten

/-! ### Lists in order -/
theorem sorted_eq {xs ys : List (Int × Int)} (hx : xs.Pairwise (fun a b => a.1 < b.1)) (hy : ys.Pairwise (fun a b => a.1 < b.1)) (h : ∀ p, p ∈ xs ↔ p ∈ ys) : xs = ys := by
  induction xs generalizing ys with
  | nil =>
    cases ys with
    | nil => rfl
    | cons y ys => exact absurd ((h y).2 (List.mem_cons_self ..)) (by simp)
  | cons x xs ih =>
    cases ys with
    | nil => exact absurd ((h x).1 (List.mem_cons_self ..)) (by simp)
    | cons y ys =>
      rw [List.pairwise_cons] at hx hy
      have e : x = y := by
        rcases List.mem_cons.1 ((h x).1 (List.mem_cons_self ..)) with e | h1
        · exact e
        · rcases List.mem_cons.1 ((h y).2 (List.mem_cons_self ..)) with e | h2
          · exact e.symm
          · have a := hy.1 x h1
            have b := hx.1 y h2
            omega
      subst e
      rw [ih hx.2 hy.2 (fun p => ?_)]
      constructor
      · intro hp
        rcases List.mem_cons.1 ((h p).1 (List.mem_cons_of_mem _ hp)) with e | h1
        · subst e; have := hx.1 p hp; omega
        · exact h1
      · intro hp
        rcases List.mem_cons.1 ((h p).2 (List.mem_cons_of_mem _ hp)) with e | h1
        · subst e; have := hy.1 p hp; omega
        · exact h1

/-! ### Bringings of visits in order -/
theorem bring_fold (n : Nat) (V : List (Int × Int)) (acc : List Int) (hl : acc.length = n) (hr : ∀ p ∈ V, 0 ≤ p.1 ∧ p.1 < n ∧ fitsI p.2 = true) (hs : V.Pairwise (fun a b => a.1 < b.1)) (h0 : ∀ p ∈ V, nth acc p.1.toNat = 0) :
    (∀ p ∈ V, nth (V.foldl bring acc) p.1.toNat = p.2) ∧ ∀ j : Nat, (∀ p ∈ V, p.1 ≠ j) → nth (V.foldl bring acc) j = nth acc j := by
  induction V generalizing acc with
  | nil => exact ⟨fun p hp => absurd hp (by simp), fun j _ => rfl⟩
  | cons x V ih =>
    rw [List.pairwise_cons] at hs
    obtain ⟨x0, x1, xf⟩ := hr x (List.mem_cons_self ..)
    have hb : bring acc x = acc.set x.1.toNat x.2 := by
      unfold bring
      rw [if_pos ⟨x0, by omega⟩, h0 x (List.mem_cons_self ..), satI_zero xf]
    have hat : ∀ j : Nat, nth (acc.set x.1.toNat x.2) j = if x.1.toNat = j then x.2 else nth acc j := fun j => nth_set (by omega)
    have ih := ih (acc.set x.1.toNat x.2) (by rw [List.length_set]; exact hl) (fun p hp => hr p (List.mem_cons_of_mem _ hp)) hs.2 (fun p hp => by
      rw [hat, if_neg (by have := hs.1 p hp; have := hr p (List.mem_cons_of_mem _ hp); omega)]
      exact h0 p (List.mem_cons_of_mem _ hp))
    rw [List.foldl_cons, hb]
    refine ⟨fun p hp => ?_, fun j hj => ?_⟩
    · rcases List.mem_cons.1 hp with e | hp
      · subst e
        rw [ih.2 p.1.toNat (fun q hq => by have := hs.1 q hq; omega), hat, if_pos rfl]
      · exact ih.1 p hp
    · rw [ih.2 j (fun p hp => hj p (List.mem_cons_of_mem _ hp)), hat, if_neg (by have := hj x (List.mem_cons_self ..); omega)]

theorem brings_back {n : Nat} {V : List (Int × Int)} (hr : ∀ p ∈ V, 0 ≤ p.1 ∧ p.1 < n ∧ 1 ≤ p.2 ∧ p.2 ≤ 2147483648) (hs : V.Pairwise (fun a b => a.1 < b.1)) : visitsOf (bringsOf V n) = V := by
  have hlen : (bringsOf V n).length = n := by unfold bringsOf; rw [foldl_bring_len]; simp
  have hz : ∀ k : Nat, nth (List.replicate n (0 : Int)) k = 0 := fun k => by
    by_cases h : k < n <;> simp [nth, h]
  have hb := bring_fold n V (List.replicate n 0) (by simp) (fun p hp => by have := hr p hp; exact ⟨by omega, by omega, fitsI_iff.2 (by omega)⟩) hs (fun p _ => hz _)
  rw [show V.foldl bring (List.replicate n 0) = bringsOf V n from rfl] at hb
  refine sorted_eq (visitsTo_sorted _ _) hs (fun p => ?_)
  unfold visitsOf
  rw [visitsTo_mem, hlen]
  constructor
  · rintro ⟨j, h1, h2, rfl⟩
    by_cases hx : ∃ p ∈ V, p.1 = (j : Int)
    · obtain ⟨p, hp, he⟩ := hx
      have h3 := hb.1 p hp
      rw [show p.1.toNat = j by omega] at h3
      rw [h3, ← he]
      exact hp
    · have h3 := hb.2 j (fun p hp e => hx ⟨p, hp, e⟩)
      rw [hz] at h3
      omega
  · intro hp
    have h0 := hr p hp
    have h3 := hb.1 p hp
    refine ⟨p.1.toNat, by omega, by rw [h3]; omega, ?_⟩
    rw [h3, show ((p.1.toNat : Nat) : Int) = p.1 by omega]

/-! ### A pattern of visits in order -/
theorem fold_test (V : List (Int × Int)) (s : Nat) (k : Nat) (hk : k < 64) : (V.foldl (fun s p => withN s p.1) s).testBit k = (s.testBit k || decide (∃ p ∈ V, p.1 = (k : Int))) := by
  induction V generalizing s with
  | nil => simp
  | cons x V ih =>
    rw [List.foldl_cons, ih, test_with' _ _ k hk]
    by_cases h1 : x.1 = (k : Int)
    · simp [h1]
    · have e : (∃ p, p ∈ x :: V ∧ p.1 = (k : Int)) ↔ ∃ p, p ∈ V ∧ p.1 = (k : Int) := by
        constructor
        · rintro ⟨p, hp, he⟩
          rcases List.mem_cons.1 hp with rfl | hp
          · exact absurd he h1
          · exact ⟨p, hp, he⟩
        · rintro ⟨p, hp, he⟩
          exact ⟨p, List.mem_cons_of_mem _ hp, he⟩
      rw [decide_eq_false h1, Bool.or_false, decide_eq_decide.2 e]
theorem pat_back {n : Nat} {dm : Int} {V : List (Int × Int)} (hn : n ≤ 64) (hr : ∀ p ∈ V, 0 ≤ p.1 ∧ p.1 < n) (hs : V.Pairwise (fun a b => a.1 < b.1)) (hq : ∀ p ∈ V, p.2 = dm) : onV dm (V.foldl (fun s p => withN s p.1) 0) = V := by
  refine sorted_eq (onV_sorted _ _) hs (fun p => ?_)
  unfold onV
  rw [List.mem_map]
  constructor
  · rintro ⟨d, hd, rfl⟩
    obtain ⟨h0, h1⟩ := all_bd _ 0 64 d hd
    obtain ⟨k, rfl⟩ := Int.eq_ofNat_of_zero_le h0
    have hb := ((mem_all _ 0 64 k (by omega)).1 hd).2
    rw [fold_test _ _ k (by omega), Nat.zero_testBit, Bool.false_or, decide_eq_true_eq] at hb
    obtain ⟨p, hp, he⟩ := hb
    have := hq p hp
    rw [← he, ← this]
    exact hp
  · intro hp
    have h0 := hr p hp
    refine ⟨p.1, ?_, by rw [← hq p hp]⟩
    obtain ⟨k, hk⟩ := Int.eq_ofNat_of_zero_le h0.1
    rw [hk]
    refine (mem_all _ 0 64 k (by omega)).2 ⟨Nat.zero_le _, ?_⟩
    rw [fold_test _ _ k (by omega), Nat.zero_testBit, Bool.false_or, decide_eq_true_eq]
    exact ⟨p, hp, hk⟩

/-! ### Visits of a plan that may be -/
theorem filter_once {xs : List (Int × Int)} (h : (xs.map (·.1)).Nodup) (i : Int) : (xs.filter (fun s => decide (s.1 = i))).length ≤ 1 := by
  induction xs with
  | nil => simp
  | cons x xs ih =>
    rw [List.map_cons, List.nodup_cons] at h
    by_cases hx : x.1 = i
    · have : xs.filter (fun s => decide (s.1 = i)) = [] := by
        rw [List.filter_eq_nil_iff]
        intro s hs
        simp only [decide_eq_true_eq]
        intro e
        exact h.1 (List.mem_map.2 ⟨s, hs, by rw [e, hx]⟩)
      rw [List.filter_cons_of_pos (by simpa using hx), this]; simp
    · rw [List.filter_cons_of_neg (by simpa using hx)]; exact ih h.2
theorem load_mem {xs : List (Int × Int)} (h : ∀ s ∈ xs, 0 ≤ s.2) {s : Int × Int} (hs : s ∈ xs) : s.2 ≤ (xs.map (·.2)).sum := by
  have hnn : ∀ ys : List (Int × Int), (∀ s ∈ ys, 0 ≤ s.2) → 0 ≤ (ys.map (·.2)).sum := by
    intro ys
    induction ys with
    | nil => simp
    | cons y ys ih =>
      intro h
      have a := h y (List.mem_cons_self ..)
      have b := ih (fun s hs => h s (List.mem_cons_of_mem _ hs))
      rw [List.map_cons, List.sum_cons]; omega
  induction xs with
  | nil => exact absurd hs (by simp)
  | cons x xs ih =>
    rw [List.map_cons, List.sum_cons]
    rcases List.mem_cons.1 hs with e | hs
    · subst e; have := hnn xs (fun s hs => h s (List.mem_cons_of_mem _ hs)); omega
    · have := ih (fun s hs => h s (List.mem_cons_of_mem _ hs)) hs
      have := h x (List.mem_cons_self ..)
      omega
theorem DayD.stop {N : Nat} {cap : Int} {T : List (List (Int × Int))} (h : DayD N cap T) {s : Int × Int} (hs : s ∈ T.flatten) : 0 ≤ s.1 ∧ s.1 < N ∧ 1 ≤ s.2 ∧ s.2 ≤ 2147483648 ∧ s.2 ≤ cap := by
  obtain ⟨r, hr, hs⟩ := List.mem_flatten.1 hs
  have ht := h.tour r hr
  have h1 := ht.ok s hs
  have h2 := load_mem (fun s hs => by have := ht.ok s hs; omega) hs
  have h3 := ht.load
  omega
theorem mem_sel {i d : Int} {xs : List (Int × Int)} {p : Int × Int} (h : p ∈ selD i d xs) : p.1 = d ∧ (i, p.2) ∈ xs := by
  unfold selD at h
  obtain ⟨s, hs, rfl⟩ := List.mem_map.1 h
  obtain ⟨h1, h2⟩ := List.mem_filter.1 hs
  rw [decide_eq_true_eq] at h2
  exact ⟨rfl, by rw [← h2]; exact h1⟩
section
variable {N n : Nat} {cap : Int} {P : List (List (List (Int × Int)))}
theorem vis_mem (h : ∀ d, d < n → DayD N cap (nthD P d)) (i : Int) (k : Nat) (hk : k ≤ n) : ∀ p ∈ visTo i P k, 0 ≤ p.1 ∧ p.1 < k ∧ 1 ≤ p.2 ∧ p.2 ≤ 2147483648 ∧ p.2 ≤ cap := by
  induction k with
  | zero => intro p hp; exact absurd hp (by simp [visTo])
  | succ k ih =>
    intro p hp
    rw [visTo] at hp
    rcases List.mem_append.1 hp with hp | hp
    · have := ih (by omega) p hp; omega
    · obtain ⟨h1, h2⟩ := mem_sel hp
      have := (h k (by omega)).stop h2
      simp only at this
      omega
theorem vis_sorted (h : ∀ d, d < n → DayD N cap (nthD P d)) (i : Int) (k : Nat) (hk : k ≤ n) : (visTo i P k).Pairwise (fun a b => a.1 < b.1) := by
  induction k with
  | zero => simp [visTo]
  | succ k ih =>
    rw [visTo, List.pairwise_append]
    refine ⟨ih (by omega), ?_, fun a ha b hb => ?_⟩
    · have h1 := filter_once (h k (by omega)).once i
      unfold selD
      generalize (nthD P k).flatten.filter (fun s => decide (s.1 = i)) = xs at *
      match xs, h1 with
      | [], _ => simp
      | [x], _ => simp
    · have h1 := vis_mem h i k (by omega) a ha
      have h2 := (mem_sel hb).1
      omega
theorem vis_tours (h : ∀ d, d < n → DayD N cap (nthD P d)) (i : Int) (k : Nat) (hk : k ≤ n) : (visTo i P k).length ≤ ((List.range k).map fun d => (nthD P d).length).sum := by
  induction k with
  | zero => simp [visTo]
  | succ k ih =>
    rw [visTo, List.length_append, List.range_succ, List.map_append, List.sum_append]
    have h0 := ih (by omega)
    have h1 := filter_once (h k (by omega)).once i
    have e : (selD i k (nthD P k).flatten).length ≤ (nthD P k).length := by
      unfold selD
      rw [List.length_map]
      cases hT : nthD P k with
      | nil => simp
      | cons r T => rw [← hT]; have : 1 ≤ (nthD P k).length := by rw [hT]; simp
                    omega
    simp
    omega
end
theorem flat_len (P : List (List (List (Int × Int)))) : P.flatten.length = ((List.range P.length).map fun d => (nthD P d).length).sum := by
  rw [List.length_flatten]
  congr 1
  apply List.ext_getElem
  · simp
  · intro k h1 h2
    simp at h1 h2 ⊢
    simp [nthD, h1]

/-! ### Sums over stops -/
theorem sumUpto_zero (k : Nat) : sumUpto (fun _ => 0) k = 0 := by
  induction k with
  | zero => rfl
  | succ k ih => rw [sumUpto, ih]; omega
theorem sumUpto_add (f g : Nat → Int) (k : Nat) : sumUpto (fun i => f i + g i) k = sumUpto f k + sumUpto g k := by
  induction k with
  | zero => rfl
  | succ k ih => rw [sumUpto, sumUpto, sumUpto, ih]; omega
theorem sumUpto_at (c : Int) (j k : Nat) : sumUpto (fun i => if i = j then c else 0) k = if j < k then c else 0 := by
  induction k with
  | zero => simp [sumUpto]
  | succ k ih =>
    rw [sumUpto, ih]
    by_cases h : k = j
    · subst h; simp
    · by_cases h2 : j < k
      · rw [if_pos h2, if_neg h, if_pos (by omega)]; omega
      · rw [if_neg h2, if_neg h, if_neg (by omega)]; omega
/-- What is told of stops, together. -/
def sumS (g : Int → Int → Int) (xs : List (Int × Int)) : Int := (xs.map fun s => g s.1 s.2).sum
theorem sumS_append (g : Int → Int → Int) (xs ys : List (Int × Int)) : sumS g (xs ++ ys) = sumS g xs + sumS g ys := by simp [sumS]
theorem sumS_cons (g : Int → Int → Int) (x : Int × Int) (xs : List (Int × Int)) : sumS g (x :: xs) = g x.1 x.2 + sumS g xs := by simp [sumS]
theorem sumS_flatten (g : Int → Int → Int) (T : List (List (Int × Int))) : sumS g T.flatten = (T.map (sumS g)).sum := by
  induction T with
  | nil => rfl
  | cons r T ih => rw [List.flatten_cons, sumS_append, ih]; simp
theorem sumS_part (g : Int → Int → Int) (N : Nat) (xs : List (Int × Int)) (h : ∀ s ∈ xs, 0 ≤ s.1 ∧ s.1 < N) : sumUpto (fun i => sumS g (xs.filter (fun s => decide (s.1 = (i : Int))))) N = sumS g xs := by
  induction xs with
  | nil => exact sumUpto_zero N
  | cons x xs ih =>
    obtain ⟨h0, h1⟩ := h x (List.mem_cons_self ..)
    rw [sumS_cons, ← ih (fun s hs => h s (List.mem_cons_of_mem _ hs))]
    have e : sumUpto (fun i => if i = x.1.toNat then g x.1 x.2 else 0) N = g x.1 x.2 := by rw [sumUpto_at, if_pos (by omega)]
    rw [← e, ← sumUpto_add]
    congr 1
    funext i
    by_cases hx : x.1 = (i : Int)
    · rw [List.filter_cons_of_pos (by simpa using hx), sumS_cons, if_pos (by omega)]
    · rw [List.filter_cons_of_neg (by simpa using hx), if_neg (by omega)]; omega
theorem sel_sum (g : Int → Int) (i d : Int) (xs : List (Int × Int)) : ((selD i d xs).map fun p => g p.2).sum = sumS (fun _ q => g q) (xs.filter (fun s => decide (s.1 = i))) := by
  unfold selD sumS
  rw [List.map_map]; rfl
theorem vis_sum (g : Int → Int) (i : Int) (P : List (List (List (Int × Int)))) (k : Nat) (hk : k ≤ P.length) : ((visTo i P k).map fun p => g p.2).sum = sumS (fun _ q => g q) ((P.take k).flatten.flatten.filter (fun s => decide (s.1 = i))) := by
  induction k with
  | zero => simp [visTo, sumS]
  | succ k ih =>
    have e : P.take (k + 1) = P.take k ++ [nthD P k] := by
      rw [List.take_succ_eq_append_getElem (by omega)]
      simp [nthD, show k < P.length by omega]
    rw [visTo, List.map_append, List.sum_append, ih (by omega), sel_sum, e, List.flatten_append, List.flatten_append, List.filter_append, sumS_append]
    simp
end

section
open Go.RowKit
set_option linter.unusedVariables false
set_option maxRecDepth 100000

def priceS (O I : List Int) (c : Int) : Int := nth O (c + 1).toNat + nth I (c + 1).toNat
theorem nth_fst (r : List (Int × Int)) (k : Nat) (h : k < r.length) : nth (r.map (·.1)) k = (nthP r k).1 := by simp [nth, nthP, h]
theorem sumTo_eq (O I : List Int) (r : List (Int × Int)) (k : Nat) (hk : k ≤ r.length) : sumTo O I (r.map (·.1)) k = (nth O 0 + nth I 0) + sumS (fun c _ => priceS O I c) (r.take k) := by
  induction k with
  | zero => simp [sumTo, sumS]
  | succ k ih =>
    rw [sumTo, ih (by omega), nth_fst r k (by omega), takeP_succ r k (by omega), sumS_append]
    simp only [sumS, priceS, List.map_cons, List.map_nil, List.sum_cons, List.sum_nil]
    omega
theorem TourD.tour {N : Nat} {cap : Int} {r : List (Int × Int)} (h : TourD N cap r) : TourOk (N + 1) (r.map (·.1)) := by
  refine ⟨by rw [List.length_map]; exact h.some, fun k hk => ?_, fun k hk e => ?_⟩
  · rw [List.length_map] at hk
    rw [nth_fst r k hk]
    have := h.ok _ (nthP_mem hk)
    omega
  · rw [nth_lt (by omega), nth_lt hk] at e
    have := (List.getElem_inj h.once).1 e
    omega
theorem tour_price {D : List (List Int)} {N : Nat} {cap : Int} {O I : List Int} {r : List (Int × Int)} (hm : mayP D (N + 1) O I) (h : TourD N cap r) : (nth O 0 + nth I 0) + sumS (fun c _ => priceS O I c) r ≤ wayI D (r.map (·.1)) := by
  have h1 := tour_le hm (by omega) h.tour
  rw [List.length_map, sumTo_eq O I r r.length (Nat.le_refl _), List.take_length] at h1
  exact h1
theorem comeUpto_le (D : List (List Int)) (b k a : Nat) (ha : a < k) (hab : a ≠ b) : comeUpto D b k ≤ arcI D a b := by
  induction k with
  | zero => omega
  | succ k ih =>
    rw [comeUpto]
    by_cases h : a = k
    · subst h; rw [if_neg hab]; omega
    · have := ih (by omega)
      split <;> omega
theorem tour_cheap {D : List (List Int)} {N : Nat} {cap : Int} {r : List (Int × Int)} (hD : ArcBd D) (h : TourD N cap r) : sumS (fun c _ => cheapI D N c.toNat) r ≤ wayI D (r.map (·.1)) := by
  have ht := h.tour
  have hl := h.some
  have key : ∀ k, k + 1 ≤ r.length → sumS (fun c _ => cheapI D N c.toNat) (r.take (k + 1)) ≤ wayTo D (r.map (·.1)) (k + 1) - arcI D (nth (r.map (·.1)) ((r.map (·.1)).length - 1) + 1) 0 := by
    intro k hk
    have hlen : (r.map (·.1)).length = r.length := List.length_map _
    induction k with
    | zero =>
      have h0 := ht.range 0 (by omega)
      have h2 := comeUpto_le D ((nth (r.map (·.1)) 0).toNat + 1) (N + 1) 0 (by omega) (by omega)
      rw [show ((((nth (r.map (·.1)) 0).toNat + 1 : Nat)) : Int) = nth (r.map (·.1)) 0 + 1 by omega] at h2
      have e3 : sumS (fun c _ => cheapI D N c.toNat) (r.take (0 + 1)) = cheapI D N (nth (r.map (·.1)) 0).toNat := by
        rw [takeP_succ r 0 (by omega), nth_fst r 0 (by omega)]
        simp [sumS]
      have e2 : wayTo D (r.map (·.1)) (0 + 1) = arcI D 0 (nth (r.map (·.1)) 0 + 1) + arcI D (nth (r.map (·.1)) ((r.map (·.1)).length - 1) + 1) 0 := rfl
      rw [e2, e3]
      unfold cheapI
      simp only [Int.natCast_zero] at h2
      omega
    | succ k ih =>
      have h1 := ih (by omega)
      have r0 := ht.range k (by omega)
      have r1 := ht.range (k + 1) (by omega)
      have hne := ht.apart k (by omega)
      have h2 := comeUpto_le D ((nth (r.map (·.1)) (k + 1)).toNat + 1) (N + 1) ((nth (r.map (·.1)) k).toNat + 1) (by omega) (by omega)
      rw [show ((((nth (r.map (·.1)) (k + 1)).toNat + 1 : Nat)) : Int) = nth (r.map (·.1)) (k + 1) + 1 by omega, show ((((nth (r.map (·.1)) k).toNat + 1 : Nat)) : Int) = nth (r.map (·.1)) k + 1 by omega] at h2
      have e2 : wayTo D (r.map (·.1)) (k + 1 + 1) = wayTo D (r.map (·.1)) (k + 1) + arcI D (nth (r.map (·.1)) k + 1) (nth (r.map (·.1)) (k + 1) + 1) := rfl
      have e3 : sumS (fun c _ => cheapI D N c.toNat) (r.take (k + 1 + 1)) = sumS (fun c _ => cheapI D N c.toNat) (r.take (k + 1)) + cheapI D N (nth (r.map (·.1)) (k + 1)).toNat := by
        rw [takeP_succ r (k + 1) (by omega), sumS_append, nth_fst r (k + 1) (by omega)]
        simp [sumS]
      rw [e2, e3]
      unfold cheapI at h1 ⊢
      omega
  obtain ⟨m, hm⟩ : ∃ m, r.length = m + 1 := ⟨r.length - 1, by omega⟩
  have h1 := key m (by omega)
  have h2 := hD (nth (r.map (·.1)) ((r.map (·.1)).length - 1) + 1) 0
  rw [← hm, List.take_length] at h1
  unfold wayI
  rw [show (r.map (·.1)).length = r.length from List.length_map _] at *
  omega

theorem tours_price {D : List (List Int)} {N : Nat} {cap : Int} {O I : List Int} {T : List (List (Int × Int))} (hm : mayP D (N + 1) O I) (h : ∀ r ∈ T, TourD N cap r) : (nth O 0 + nth I 0) * T.length + sumS (fun c _ => priceS O I c) T.flatten ≤ wayP D T := by
  induction T with
  | nil => simp [sumS, wayP]
  | cons r T ih =>
    have h1 := tour_price hm (h r (List.mem_cons_self ..))
    have h2 := ih (fun r hr => h r (List.mem_cons_of_mem _ hr))
    unfold wayP at h2 ⊢
    rw [List.flatten_cons, sumS_append, List.map_cons, List.sum_cons, List.length_cons, Int.natCast_succ, Int.mul_add, Int.mul_one]
    omega
theorem tours_cheap {D : List (List Int)} {N : Nat} {cap : Int} {T : List (List (Int × Int))} (hD : ArcBd D) (h : ∀ r ∈ T, TourD N cap r) : sumS (fun c _ => cheapI D N c.toNat) T.flatten ≤ wayP D T := by
  induction T with
  | nil => simp [sumS, wayP]
  | cons r T ih =>
    have h1 := tour_cheap hD (h r (List.mem_cons_self ..))
    have h2 := ih (fun r hr => h r (List.mem_cons_of_mem _ hr))
    unfold wayP at h2 ⊢
    rw [List.flatten_cons, sumS_append, List.map_cons, List.sum_cons]
    omega
theorem tours_load {N : Nat} {cap : Int} {T : List (List (Int × Int))} (h : ∀ r ∈ T, TourD N cap r) : sumS (fun _ q => q) T.flatten ≤ cap * T.length := by
  induction T with
  | nil => simp [sumS]
  | cons r T ih =>
    have h1 := (h r (List.mem_cons_self ..)).load
    have h2 := ih (fun r hr => h r (List.mem_cons_of_mem _ hr))
    have e : sumS (fun _ q => q) r = (r.map (·.2)).sum := rfl
    rw [List.flatten_cons, sumS_append, List.length_cons, Int.natCast_succ, Int.mul_add, Int.mul_one, e]
    omega

section
variable {n : Nat} {cap : Int} {L : List Cu} {P : List (List (List (Int × Int)))} {D : List (List Int)}
theorem nthD_mem {d : Nat} (h : d < P.length) : nthD P d ∈ P := by simp [nthD, h]
theorem PlanD.tours (h : PlanD n cap L P) : ∀ r ∈ P.flatten, TourD L.length cap r := by
  intro r hr
  obtain ⟨T, hT, hr⟩ := List.mem_flatten.1 hr
  obtain ⟨d, hd, rfl⟩ := List.getElem_of_mem hT
  have := h.day d (by rw [← h.len]; exact hd)
  rw [show nthD P d = P[d] by simp [nthD, hd]] at this
  exact this.tour r hr
theorem PlanD.stops (h : PlanD n cap L P) : ∀ s ∈ P.flatten.flatten, 0 ≤ s.1 ∧ s.1 < L.length := by
  intro s hs
  obtain ⟨r, hr, hs⟩ := List.mem_flatten.1 hs
  have := (h.tours r hr).ok s hs
  omega
theorem PlanD.suits (h : PlanD n cap L P) (hOk : OkI n L) (hn : n ≤ 20) {i : Nat} (hi : i < L.length) :
    suitsV (nthC L i).kd (nthC L i).dm (nthC L i).ps (nthC L i).rt (nthC L i).sz (nthC L i).st (nthC L i).ru cap (visTo i P n) n = true := by
  have hm := vis_mem h.day i n (Nat.le_refl n)
  have hs := vis_sorted h.day i n (Nat.le_refl n)
  have hc := h.cust i hi
  generalize visTo i P n = V at *
  have hf : fitsV cap V = true := by
    unfold fitsV
    rw [List.all_eq_true]
    intro p hp
    rw [decide_eq_true_eq]
    exact (hm p hp).2.2.2.2
  unfold suitsV
  rw [hf, Bool.true_and]
  rcases hc with ⟨h1, h2, h3⟩ | ⟨h1, h2⟩
  · rw [if_pos h1, List.any_eq_true]
    exact ⟨_, h3, by rw [decide_eq_true_eq]; exact pat_back (n := n) (by omega) (fun p hp => by have := hm p hp; omega) hs h2⟩
  · rw [if_neg (by omega), brings_back (fun p hp => by have := hm p hp; omega) hs, h2]
    simp
theorem priceV_rep {p : Int} {V : List (Int × Int)} (h : ∀ x ∈ V, 0 ≤ x.1 ∧ x.1 < n) : priceV (List.replicate n p) V = p * V.length := by
  induction V with
  | nil => simp [priceV]
  | cons x V ih =>
    obtain ⟨h0, h1⟩ := h x (List.mem_cons_self ..)
    have ih := ih (fun y hy => h y (List.mem_cons_of_mem _ hy))
    have e : priceV (List.replicate n p) (x :: V) = priceAt (List.replicate n p) x.1 + priceV (List.replicate n p) V := by simp [priceV]
    have e2 : priceAt (List.replicate n p) x.1 = p := by
      unfold priceAt
      rw [if_pos ⟨h0, by rw [List.length_replicate]; exact h1⟩]
      simp [nth, show x.1.toNat < n by omega]
    rw [e, e2, ih, List.length_cons, Int.natCast_succ, Int.mul_add, Int.mul_one]
    omega
theorem map_const (c : Int) (V : List (Int × Int)) : (V.map fun _ => c).sum = c * V.length := by
  induction V with
  | nil => simp
  | cons x V ih => rw [List.map_cons, List.sum_cons, ih, List.length_cons, Int.natCast_succ, Int.mul_add, Int.mul_one]; omega
theorem sumS_at (g : Int → Int) (i : Int) (xs : List (Int × Int)) : sumS (fun c _ => g c) (xs.filter (fun s => decide (s.1 = i))) = sumS (fun _ _ => g i) (xs.filter (fun s => decide (s.1 = i))) := by
  induction xs with
  | nil => rfl
  | cons x xs ih =>
    by_cases hx : x.1 = i
    · rw [List.filter_cons_of_pos (by simpa using hx), sumS_cons, sumS_cons, ih, hx]
    · rw [List.filter_cons_of_neg (by simpa using hx), ih]
/-- As often as a customer is visited, together. -/
theorem PlanD.often (h : PlanD n cap L P) (g : Int → Int) : sumUpto (fun i => g i * (visTo i P n).length) L.length = sumS (fun c _ => g c) P.flatten.flatten := by
  rw [← sumS_part _ L.length _ h.stops]
  apply sumUpto_congr
  intro i hi
  have h1 := vis_sum (fun _ => g i) i P n (by rw [h.len]; exact Nat.le_refl _)
  rw [map_const, show P.take n = P by rw [← h.len]; exact List.take_length] at h1
  rw [h1]
  exact (sumS_at g i _).symm
theorem PlanD.brought (h : PlanD n cap L P) : sumUpto (fun i => broughtV (visTo i P n)) L.length = sumS (fun _ q => q) P.flatten.flatten := by
  rw [← sumS_part _ L.length _ h.stops]
  apply sumUpto_congr
  intro i hi
  have h1 := vis_sum (fun q => q) i P n (by rw [h.len]; exact Nat.le_refl _)
  rw [show P.take n = P by rw [← h.len]; exact List.take_length] at h1
  exact h1
theorem PlanD.least (h : PlanD n cap L P) (hOk : OkI n L) (hn : n ≤ 20) : leastT n cap L ≤ P.flatten.length := by
  have hfew : ∀ i, i < L.length → forcedC n cap (nthC L i) ≤ (visTo i P n).length := fun i hi => (suit_facts hn (hOk.cus _ (nthC_mem hi)) (h.suits hOk hn hi)).few
  have htour : ∀ i : Nat, ((visTo i P n).length : Int) ≤ P.flatten.length := fun i => by
    have h1 := vis_tours h.day i n (Nat.le_refl n)
    rw [flat_len, h.len]
    omega
  have hmost := mostUpto_bd (fun i => forcedC n cap (nthC L i)) P.flatten.length (by omega) L.length (fun i hi => by have := hfew i hi; have := htour i; omega)
  have hmust : sumUpto (fun i => mustC n cap (nthC L i)) L.length ≤ sumUpto (fun i => broughtV (visTo i P n)) L.length := by
    apply sumUpto_le
    intro i hi
    have hf := hfew i hi
    have hw := (suit_facts hn (hOk.cus _ (nthC_mem hi)) (h.suits hOk hn hi)).wants
    unfold mustC
    rcases h.cust i hi with ⟨h1, h2, _⟩ | ⟨h1, _⟩
    · rw [if_pos h1]
      have hdm : 0 ≤ (nthC L i).dm := by
        rcases hOk.cus _ (nthC_mem hi) with ⟨_, a, _⟩ | ⟨a, _⟩
        · omega
        · omega
      have e : broughtV (visTo i P n) = (nthC L i).dm * (visTo i P n).length := by
        unfold broughtV
        rw [← map_const]
        congr 1
        exact List.map_congr_left h2
      rw [e, Int.mul_comm (nthC L i).dm]
      exact Int.mul_le_mul_of_nonneg_right hf hdm
    · rw [if_neg (by omega)]
      rcases hw with hw | hw
      · omega
      · exact hw
  rw [h.brought] at hmust
  have hload := tours_load h.tours
  unfold leastT
  simp only []
  by_cases hc : 0 < cap
  · rw [if_pos hc]
    have hq : ceilI (sumUpto (fun i => mustC n cap (nthC L i)) L.length) cap ≤ P.flatten.length := by
      generalize sumUpto (fun i => mustC n cap (nthC L i)) L.length = S at *
      generalize (P.flatten.length : Int) = c at *
      unfold ceilI
      have e : cap * (c + 1) = cap * c + cap := by rw [Int.mul_add, Int.mul_one]
      have := Int.ediv_lt_of_lt_mul (a := S + cap - 1) (b := c + 1) (c := cap) (by omega) (by rw [Int.mul_comm, e]; omega)
      omega
    omega
  · rw [if_neg hc]; omega
theorem PlanD.held0 (h : PlanD n cap L P) (hOk : OkI n L) (hn : n ≤ 20) {i : Nat} (hi : i < L.length) : 0 ≤ heldC n (nthC L i) (visTo i P n) ∧ heldC n (nthC L i) (visTo i P n) ≤ 200000 := by
  have hs := h.suits hOk hn hi
  unfold heldC
  rcases hOk.cus _ (nthC_mem hi) with ⟨a, _⟩ | ⟨a, T⟩
  · rw [if_pos a]; omega
  · rw [if_neg (by omega)]
    rw [a] at hs
    obtain ⟨hq, _⟩ := suit_of hs
    have h1 := hq.held_bd T (Nat.le_refl n)
    rw [hq.nights]
    have h0 := T.hd0
    have h2 := T.hd1
    have m1 := Int.mul_nonneg h0 h1.1
    have m2 : (nthC L i).hd * (nightL (nthC L i).st (nthC L i).rt (bringsOf (visTo i P n) n) n).sum ≤ 100 * 2000 := Int.mul_le_mul h2 (by omega) h1.1 (by omega)
    exact ⟨m1, by have := m2; show (nthC L i).hd * (nightL (nthC L i).st (nthC L i).rt (bringsOf (visTo i P n) n) n).sum ≤ 200000; omega⟩
/-- No plan that may be costs less than Value, by prices that may be. -/
theorem PlanD.value (h : PlanD n cap L P) (hOk : OkI n L) (hn : n ≤ 20) {O I : List Int} (hm : mayP D (L.length + 1) O I) (hb : ∀ j, 0 ≤ nth O j ∧ nth O j ≤ 500 ∧ 0 ≤ nth I j ∧ nth I j ≤ 500) : valueT n cap L O I ≤ costP D n L P := by
  have h1 := tours_price hm h.tours
  have h2 := h.least hOk hn
  have h3 := Int.mul_le_mul_of_nonneg_left h2 (show 0 ≤ nth O 0 + nth I 0 by have := hb 0; omega)
  have h4 : sumUpto (fun i => aloneC n cap (priceI2 O I i) (nthC L i)) L.length ≤ sumUpto (fun i => heldC n (nthC L i) (visTo i P n) + priceI2 O I i * (visTo i P n).length) L.length := by
    apply sumUpto_le
    intro i hi
    have hs := h.suits hOk hn hi
    have hp : PriceOk (List.replicate n (priceI2 O I i)) := fun x hx => by
      rw [List.eq_of_mem_replicate hx]
      have := hb (i + 1)
      unfold priceI2
      omega
    have := bound_le hn hp (hOk.cus _ (nthC_mem hi)) hs
    unfold costV at this
    rw [priceV_rep (fun x hx => by have := vis_mem h.day i n (Nat.le_refl n) x hx; omega)] at this
    unfold aloneC heldC
    omega
  rw [sumUpto_add] at h4
  have h5 := h.often (priceS O I)
  have h6 : sumUpto (fun i => priceI2 O I i * (visTo i P n).length) L.length = sumUpto (fun i => priceS O I i * (visTo i P n).length) L.length := by
    apply sumUpto_congr
    intro i _
    unfold priceS priceI2
    rw [show ((i : Int) + 1).toNat = i + 1 by omega]
  rw [h6, h5] at h4
  unfold valueT costP
  omega
/-- .. nor than the base. -/
theorem PlanD.base (h : PlanD n cap L P) (hOk : OkI n L) (hn : n ≤ 20) (hD : ArcBd D) : baseT n cap L D ≤ costP D n L P := by
  have h1 := tours_cheap hD h.tours
  have h2 : 0 ≤ sumUpto (fun i => heldC n (nthC L i) (visTo i P n)) L.length := (sumUpto_bd _ 200000 _ (fun i hi => h.held0 hOk hn hi)).1
  have h3 : baseT n cap L D ≤ sumUpto (fun i => cheapI D L.length i * (visTo i P n).length) L.length := by
    unfold baseT
    apply sumUpto_le
    intro i hi
    exact Int.mul_le_mul_of_nonneg_left (suit_facts hn (hOk.cus _ (nthC_mem hi)) (h.suits hOk hn hi)).few (cheapI_bd hD _ _).1
  have h5 := h.often (fun c => cheapI D L.length c.toNat)
  simp only [Int.toNat_natCast] at h5
  rw [h5] at h3
  unfold costP
  omega
end
end

section
open Go.RowKit
set_option linter.unusedVariables false
set_option maxRecDepth 100000
attribute [local go_sem ↓] Go.wp_at_zero Go.wp_at_succ

/-- The slice value v reads as the tours T. -/
def Tours (w : World) (v : Value) (T : List (List (Int × Int))) : Prop :=
  ∃ (a : Option Addr) (c : Nat), v = .slice a T.length c ∧ T.length ≤ 1000000 ∧ ∀ i, i < T.length → ∃ b o sv, a = some ⟨b, o, none⟩ ∧ w.cell? ⟨b, o + i, none⟩ = some sv ∧ Pairs w sv (nthT T i)
theorem Tours.below {w w' : World} {v : Value} {T : List (List (Int × Int))} (h : Tours w v T) (hb : Below w.heap.size w w') : Tours w' v T := by
  obtain ⟨a, c, hv, h1, hc⟩ := h
  refine ⟨a, c, hv, h1, fun i hi => ?_⟩
  obtain ⟨b, o, sv, ha, g0, g1⟩ := hc i hi
  exact ⟨b, o, sv, ha, cell_below hb g0, g1.below hb⟩
theorem Tours.open {w : World} {v : Value} {T : List (List (Int × Int))} (h : Tours w v T) :
    ∃ (a : Option Addr) (n c : Nat), v = .slice a n c ∧ T.length = n ∧ n ≤ 1000000 ∧ ∀ i, i < n → ∃ b o sa sn sc, a = some ⟨b, o, none⟩ ∧ w.cell? ⟨b, o + i, none⟩ = some (.slice sa sn sc) ∧ Pairs w (.slice sa sn sc) (nthT T i) := by
  obtain ⟨a, c, rfl, h1, hc⟩ := h
  refine ⟨a, T.length, c, rfl, rfl, h1, fun i hi => ?_⟩
  obtain ⟨b, o, sv, ha, g0, g1⟩ := hc i hi
  obtain ⟨sa, sn, sc, rfl, _⟩ := g1.open
  exact ⟨b, o, sa, sn, sc, ha, g0, g1⟩
/-- .. as the days P of a plan. -/
def DaysP (w : World) (v : Value) (P : List (List (List (Int × Int)))) : Prop :=
  ∃ (a : Option Addr) (c : Nat), v = .slice a P.length c ∧ P.length ≤ 1000000 ∧ ∀ i, i < P.length → ∃ b o tv, a = some ⟨b, o, none⟩ ∧ w.cell? ⟨b, o + i, none⟩ = some tv ∧ Tours w tv (nthD P i)
theorem DaysP.below {w w' : World} {v : Value} {P : List (List (List (Int × Int)))} (h : DaysP w v P) (hb : Below w.heap.size w w') : DaysP w' v P := by
  obtain ⟨a, c, hv, h1, hc⟩ := h
  refine ⟨a, c, hv, h1, fun i hi => ?_⟩
  obtain ⟨b, o, sv, ha, g0, g1⟩ := hc i hi
  exact ⟨b, o, sv, ha, cell_below hb g0, g1.below hb⟩
theorem DaysP.open {w : World} {v : Value} {P : List (List (List (Int × Int)))} (h : DaysP w v P) :
    ∃ (a : Option Addr) (n c : Nat), v = .slice a n c ∧ P.length = n ∧ n ≤ 1000000 ∧ ∀ i, i < n → ∃ b o sa sn sc, a = some ⟨b, o, none⟩ ∧ w.cell? ⟨b, o + i, none⟩ = some (.slice sa sn sc) ∧ Tours w (.slice sa sn sc) (nthD P i) := by
  obtain ⟨a, c, rfl, h1, hc⟩ := h
  refine ⟨a, P.length, c, rfl, rfl, h1, fun i hi => ?_⟩
  obtain ⟨b, o, sv, ha, g0, g1⟩ := hc i hi
  obtain ⟨sa, sn, sc, rfl, _⟩ := g1.open
  exact ⟨b, o, sa, sn, sc, ha, g0, g1⟩
theorem box_tour (w : World) (sv : Value) : ∃ w1, w.alloc (.cells #[sv] 102) = w1 ∧ Below w.heap.size w w1 ∧ w1.heap.size = w.heap.size + 1 ∧ w1.cell? ⟨w.heap.size, 0, none⟩ = some sv := ⟨_, rfl, belAlloc _ _, by simp, by simp [go_sem]⟩
theorem box_day (w : World) (sv : Value) : ∃ w1, w.alloc (.cells #[sv] 81) = w1 ∧ Below w.heap.size w w1 ∧ w1.heap.size = w.heap.size + 1 ∧ w1.cell? ⟨w.heap.size, 0, none⟩ = some sv := ⟨_, rfl, belAlloc _ _, by simp, by simp [go_sem]⟩
theorem box_plan (w : World) (sv : Value) : ∃ w1, w.alloc (.cells #[sv] 40) = w1 ∧ Below w.heap.size w w1 ∧ w1.heap.size = w.heap.size + 1 ∧ w1.cell? ⟨w.heap.size, 0, none⟩ = some sv := ⟨_, rfl, belAlloc _ _, by simp, by simp [go_sem]⟩
theorem meas_one {d n : Nat} (h : d < n) : n - (((d : Int) + 1)).toNat < n - ((d : Int)).toNat := by
  rw [show ((d : Int) + 1).toNat = d + 1 by omega, Int.toNat_natCast]
  omega
theorem meas_oneW {d n : Nat} (h : d < n) (hn : n ≤ 10000000) : n - (wrap64 ((d : Int) + 1)).toNat < n - ((d : Int)).toNat := by
  have e : wrap64 ((d : Int) + 1) = (d : Int) + 1 := wrap_id (by omega) (by omega)
  rw [e]
  exact meas_one h

theorem load_take (r : List (Int × Int)) (k : Nat) (h : k < r.length) : ((r.map (·.2)).take (k + 1)).sum = ((r.map (·.2)).take k).sum + (nthP r k).2 := by
  rw [← List.map_take, ← List.map_take, takeP_succ r k h, List.map_append, List.sum_append]; simp
theorem load_bd (r : List (Int × Int)) (h : ∀ s ∈ r, 0 ≤ s.2 ∧ s.2 ≤ 2147483648) (k : Nat) (hk : k ≤ r.length) : 0 ≤ ((r.map (·.2)).take k).sum ∧ ((r.map (·.2)).take k).sum ≤ 2147483648 * k := by
  induction k with
  | zero => simp
  | succ k ih =>
    have h1 := h _ (nthP_mem (xs := r) (k := k) (by omega))
    have h2 := ih (by omega)
    rw [load_take r k (by omega)]
    omega

set_option maxRecDepth 100000 in
set_option maxHeartbeats 1600000 in
theorem loadOf_is (sv : Value) (r : List (Int × Int)) (w : World) (h : Pairs w sv r) (hr : r.length ≤ 1000000) (hq : ∀ s ∈ r, 0 ≤ s.2 ∧ s.2 ≤ 2147483648) :
    Calls Tryz.prog 92 #[.agg #[sv]] w (CostOut w (r.map (·.2)).sum) := by
  obtain ⟨w1, ew, hb1, hs1, c0⟩ := box_tour w sv
  obtain ⟨a, n, c, rfl, hn, _, hc⟩ := (h.below hb1).open
  have Hew := Lib.hid ew
  have Hn := Lib.hid hn
  have Hc := Lib.hid hc
  have Hq := Lib.hid (load_bd r hq)
  have hn2 : n ≤ 1000000 := by omega
  have hsz : w.heap.size ≤ w1.heap.size := hb1.size
  clear ew hs1 h hn hc hr hq
  go_enter Tryz.func92, Tryz.ntmps92
  go_upto_region 1 with (fail)
  rw [Hew.out]
  go_wp2_with fail
  go_loopw [3, 4] (fun v i wr => ∃ (k : Nat) (S : Int), i = .int .i64 k ∧ v = .int .i64 S ∧ k ≤ n ∧ S = ((r.map (·.2)).take k).sum ∧ wr = w1) (fun _ i _ => n - (intOf i).toNat)
  case atStart => exact ⟨0, 0, rfl, rfl, Nat.zero_le _, by simp, rfl⟩
  case round =>
    obtain ⟨k, S, rfl, rfl, hk, hS, rfl⟩ := hrel
    by_cases hlt : k < n
    · obtain ⟨b, o, rfl, f0, f1⟩ := Hc.out k hlt
      have hst := load_take r k (by rw [Hn.out]; exact hlt)
      have h1 := Hq.out (k + 1) (by rw [Hn.out]; exact hlt)
      rw [← hS] at hst
      have hws : wrap64 (S + (nthP r k).2) = S + (nthP r k).2 := by rw [← hst]; exact wrap_id (by omega) (by omega)
      have Hst := Lib.hid hst
      have Hws := Lib.hid hws
      have hi0 : (0 : Int) ≤ (k : Int) := by omega
      have hi1 : (k : Int) < (n : Int) := by omega
      generalize (nthP r k).2 = X at *
      clear f0 hst hws h1 hS
      go_wp2_with fail
      go_roundw
      case rel => exact ⟨k + 1, S + X, by go_num, (by first | rfl | exact congrArg (Value.int .i64) Hws.out), Nat.succ_le_of_lt hlt, Hst.out.symm, trivial⟩
      case measure => simp only [intOf]; first | exact meas_one hlt | exact meas_oneW hlt (by omega)
    · have hkn : k = n := by omega
      subst hkn
      have Hr : Hid (S = (r.map (·.2)).sum) := Lib.hid (by rw [hS, List.take_of_length_le (by rw [List.length_map, Hn.out]; exact Nat.le_refl _)])
      clear hS
      go_wp2_with fail
      go_ret
      rw [Hr.out]
      exact ⟨rfl, hb1⟩

/-- No number of the first k stands twice. -/
def OnceTo (l : List Int) (k : Nat) : Prop := ∀ i j, i < k → j < i → nth l i ≠ nth l j
theorem once_nodup {l : List Int} (h : OnceTo l l.length) : l.Nodup := by
  rw [List.nodup_iff_pairwise_ne, List.pairwise_iff_getElem]
  intro i j hi hj hij e
  exact h j i hj hij (by rw [nth_lt hi, nth_lt hj, e])

set_option maxRecDepth 100000 in
set_option maxHeartbeats 1600000 in
theorem twice_is (lv : Value) (l : List Int) (w : World) (h : Ints w lv l) (hl : l.length ≤ 1000000) :
    Calls Tryz.prog 69 #[lv] w fun e w' => ∃ b, e = .returned (.bool b) ∧ (b = false → l.Nodup) ∧ Below w.heap.size w w' := by
  obtain ⟨a, n, c, rfl, hn, _, hc⟩ := h.open
  have Hn := Lib.hid hn
  have Hc := Lib.hid hc
  have hn2 : n ≤ 1000000 := by omega
  clear h hn hc hl
  go_enter Tryz.func69, Tryz.ntmps69
  go_wp2_with fail
  go_loopw [3, 4] (fun i z wr => ∃ (k : Nat) (y : Value), i = .int .i64 k ∧ y = z ∧ k ≤ n ∧ OnceTo l k ∧ Below w.heap.size w wr) (fun i _ _ => n - (intOf i).toNat)
  case atStart => exact ⟨0, _, rfl, rfl, Nat.zero_le _, fun i j hi => absurd hi (Nat.not_lt_zero _), Below.refl _ _⟩
  case round =>
    obtain ⟨k, y, rfl, rfl, hk, hS, hb⟩ := hrel
    obtain ⟨wo, rfl⟩ : ∃ wo : World, wo = wr := ⟨_, rfl⟩
    have HS := Lib.hid hS
    have Hb := Lib.hid hb
    clear hS hb
    by_cases hlt : k < n
    · obtain ⟨b, o, rfl, f0⟩ := Hc.out k hlt
      have hi0 : (0 : Int) ≤ (k : Int) := by omega
      have hi1 : (k : Int) < (n : Int) := by omega
      obtain ⟨X, hX⟩ : ∃ X, X = nth l k := ⟨_, rfl⟩
      rw [← hX] at f0
      have HX := Lib.hid hX
      have Hf0 := Lib.hid f0
      clear hX f0
      go_wp2_with fail
      go_loopw [4] (fun i wr => ∃ (j : Nat), i = .int .i64 j ∧ j ≤ k ∧ (∀ m, m < j → nth l k ≠ nth l m) ∧ Below w.heap.size w wr) (fun i _ => k - (intOf i).toNat)
      case atStart => exact ⟨0, rfl, Nat.zero_le _, fun m hm => absurd hm (Nat.not_lt_zero _), Hb.out⟩
      case round =>
        obtain ⟨j, rfl, hj, hne, hbi⟩ := hrel
        have Hne := Lib.hid hne
        have Hbi := Lib.hid hbi
        clear hne hbi
        by_cases hlj : j < k
        · obtain ⟨_, _, he, f1⟩ := Hc.out j (Nat.lt_trans hlj hlt)
          simp only [Option.some.injEq, Addr.mk.injEq, and_true] at he
          obtain ⟨rfl, rfl⟩ := he
          obtain ⟨Y, hY⟩ : ∃ Y, Y = nth l j := ⟨_, rfl⟩
          rw [← hY] at f1
          have HY := Lib.hid hY
          have g0 := cell_below Hbi.out Hf0.out
          have g1 := cell_below Hbi.out f1
          have hj0 : (0 : Int) ≤ (j : Int) := by omega
          have hj1 : (j : Int) < (k : Int) := by omega
          have hj2 : (j : Int) < (n : Int) := by omega
          clear hY f1
          go_upto_region 7 with fail
          by_cases hxy : X = Y
          · subst hxy
            have hb1 : (X == X) = true := by simp
            go_quiet (fail)
            go_wp2_with fail
            go_ret
            exact ⟨true, rfl, (fun h => by cases h), below_drewN Hbi.out _⟩
          · have hb1 : (X == Y) = false := by simpa using hxy
            have Hxy : Hid (nth l k ≠ nth l j) := Lib.hid (by rw [← HX.out, ← HY.out]; exact hxy)
            clear hxy
            go_quiet (fail)
            go_wp2_with fail
            go_roundw
            case rel => exact ⟨j + 1, by go_num, Nat.succ_le_of_lt hlj, fun m hm => (by
              by_cases e : m = j
              · subst e; exact Hxy.out
              · exact Hne.out m (Nat.lt_of_le_of_ne (Nat.le_of_lt_succ hm) e)), below_drewN Hbi.out _⟩
            case measure => simp only [intOf]; first | exact meas_one hlj | exact meas_oneW hlj (by omega)
        · have hjk : j = k := by omega
          have Hon : Hid (OnceTo l (k + 1)) := Lib.hid (fun i m hi hm => by
            by_cases e : i = k
            · subst e; exact Hne.out m (by omega)
            · exact HS.out i m (Nat.lt_of_le_of_ne (Nat.le_of_lt_succ hi) e) hm)
          clear hj
          subst hjk
          go_wp2_with fail
          go_roundw
          case rel => exact ⟨j + 1, _, by go_num, rfl, Nat.succ_le_of_lt hlt, Hon.out, Hbi.out⟩
          case measure => simp only [intOf]; first | exact meas_one hlt | exact meas_oneW hlt (by omega)
    · have hkn : k = n := by omega
      have Hr : Hid (l.Nodup) := Lib.hid (once_nodup (by rw [Hn.out, ← hkn]; exact HS.out))
      subst hkn
      go_wp2_with fail
      go_ret
      exact ⟨false, rfl, fun _ => Hr.out, Hb.out⟩
end

section
open Go.RowKit
set_option linter.unusedVariables false
set_option maxRecDepth 100000
attribute [local go_sem ↓] Go.wp_at_zero Go.wp_at_succ

def MayOut (w : World) (Q : Prop) (e : Ending) (w' : World) : Prop := ∃ v : Int, e = .returned (.int .i64 v) ∧ (v = 0 → Q) ∧ Below w.heap.size w w'
theorem MayOut.no {w w' : World} {Q : Prop} {v : Int} (hv : v ≠ 0) (hb : Below w.heap.size w w') : MayOut w Q (.returned (.int .i64 v)) w' := ⟨v, rfl, fun h => absurd h hv, hb⟩
theorem box_stop (w : World) (p q : Int) : ∃ w1, w.alloc (.cells #[.int .i64 p, .int .i64 q] 78) = w1 ∧ Below w.heap.size w w1 ∧ w1.heap.size = w.heap.size + 1 ∧ w1.cell? ⟨w.heap.size, 0, none⟩ = some (.int .i64 p) ∧ w1.cell? ⟨w.heap.size, 1, none⟩ = some (.int .i64 q) := ⟨_, rfl, belAlloc _ _, by simp, by simp [go_sem], by simp [go_sem]⟩
/-- The first k stops may be. -/
def StopsTo (N : Nat) (r : List (Int × Int)) (k : Nat) : Prop := ∀ m, m < k → 0 ≤ (nthP r m).1 ∧ (nthP r m).1 < N ∧ 1 ≤ (nthP r m).2 ∧ (nthP r m).2 ≤ 2147483648
theorem stopsTo_mem {N : Nat} {r : List (Int × Int)} (h : StopsTo N r r.length) : ∀ s ∈ r, 0 ≤ s.1 ∧ s.1 < N ∧ 1 ≤ s.2 ∧ s.2 ≤ 2147483648 := by
  intro s hs
  obtain ⟨i, hi, rfl⟩ := List.getElem_of_mem hs
  rw [← nthP_lt hi]
  exact h i hi
theorem stopsTo_succ {N : Nat} {r : List (Int × Int)} {k : Nat} {P Q : Int} (h : StopsTo N r k) (hp : P = (nthP r k).1) (hq : Q = (nthP r k).2) (b1 : decide (P < 0) = false) (b2 : decide ((N : Int) ≤ P) = false) (b3 : decide (Q < 1) = false) (b4 : decide (2147483648 < Q) = false) : StopsTo N r (k + 1) := by
  intro m hm
  by_cases e : m = k
  · subst e
    rw [← hp, ← hq]
    rw [decide_eq_false_iff_not] at b1 b2 b3 b4
    omega
  · exact h m (by omega)
theorem custs_bd {N : Nat} {r : List (Int × Int)} (h : StopsTo N r r.length) (hN : N ≤ 100000) (k : Nat) : 0 ≤ nth (r.map (·.1)) k ∧ nth (r.map (·.1)) k ≤ 1000000 := by
  by_cases hk : k < r.length
  · have e : nth (r.map (·.1)) k = (nthP r k).1 := by simp [nth, nthP, hk]
    rw [e]
    have := h k hk
    omega
  · have e : nth (r.map (·.1)) k = 0 := by simp [nth, hk]
    rw [e]; omega

set_option maxRecDepth 100000 in
set_option maxHeartbeats 3200000 in
theorem mayT_is (i0 i1 cap i3 : Int) (cv dv sv : Value) (L : List Cu) (D : List (List Int)) (r : List (Int × Int)) (w : World) (hC : Custs w cv L) (hG : Grid w dv D) (hD : ArcBd D) (hL : L.length ≤ 1000) (h : Pairs w sv r) (hr : r.length ≤ 1000) :
    Calls Tryz.prog 66 #[.agg #[.int .i64 i0, .int .i64 i1, .int .i64 cap, .int .i64 i3, cv, dv], .agg #[sv]] w (MayOut w (TourD L.length cap r)) := by
  obtain ⟨w1, ew, hb1, hsz1, hx⟩ := box_inst w (.int .i64 i0) (.int .i64 i1) (.int .i64 cap) (.int .i64 i3) cv dv
  obtain ⟨w2, ew2, hb2, hsz2, p0⟩ := box_tour w1 sv
  rw [hsz1] at p0
  have hbb := bel2 hb1 hb2
  have hx2 := hx.below hb2
  obtain ⟨c0, c1, c2, c3, c4, c5⟩ := hx2
  have hC2 := hC.below hbb
  obtain ⟨ca, N, cc, rfl, hN, _, _⟩ := hC2.open
  have hG2 := hG.below hbb
  obtain ⟨da, dn, dc, rfl, _, _, _⟩ := hG2.open
  have hP := h.below hbb
  obtain ⟨a, n, c, rfl, hn, _, hc⟩ := hP.open
  have Hew := Lib.hid ew
  have Hew2 := Lib.hid ew2
  have Hbb := Lib.hid hbb
  have Hn := Lib.hid hn
  have HN := Lib.hid hN
  have Hc := Lib.hid hc
  have HP := Lib.hid hP
  have HG := Lib.hid hG2
  have HD := Lib.hid hD
  have Hx2 := Lib.hid (hx.below hb2)
  have Hp0 := Lib.hid p0
  have hN1 : N ≤ 1000 := by omega
  have hn1 : n ≤ 1000 := by omega
  have hszw : w.heap.size ≤ w2.heap.size := hbb.size
  clear ew ew2 hx hC hC2 hG hG2 hD h hP hn hN hc hb2 hsz1 hsz2 hL hr hbb hb1
  go_enter Tryz.func66, Tryz.ntmps66
  go_upto_region 1 with (fail)
  rw [Hew.out]
  rw [Hew2.out]
  by_cases h0 : n = 0
  · subst h0
    go_wp2_with fail
    go_ret
    exact MayOut.no (by decide) Hbb.out
  have hq0 : ((n : Int) == 0) = false := by simpa using h0
  have hn0 : 0 < n := Nat.pos_of_ne_zero h0
  go_wp2_with fail
  go_loopw [5, 6] (fun i z wr => ∃ (k : Nat) (y : Value), i = .int .i64 k ∧ y = z ∧ k ≤ n ∧ StopsTo N r k ∧ Below w2.heap.size w2 wr) (fun i _ _ => n - (intOf i).toNat)
  case atStart => exact ⟨0, _, rfl, rfl, Nat.zero_le _, fun m hm => absurd hm (Nat.not_lt_zero _), Below.refl _ _⟩
  case round =>
    obtain ⟨k, y, rfl, rfl, hk, hS, hb⟩ := hrel
    obtain ⟨wo, rfl⟩ : ∃ wo : World, wo = wr := ⟨_, rfl⟩
    have HS := Lib.hid hS
    have Hb := Lib.hid hb
    obtain ⟨c0, c1, c2, c3, c4, c5⟩ := Hx2.out.below hb
    have p0 := cell_below hb Hp0.out
    clear hS hb
    by_cases hlt : k < n
    · obtain ⟨b, o, rfl, f0, f1⟩ := Hc.out k hlt
      obtain ⟨P, hPe⟩ : ∃ P, P = (nthP r k).1 := ⟨_, rfl⟩
      obtain ⟨Q, hQe⟩ : ∃ Q, Q = (nthP r k).2 := ⟨_, rfl⟩
      rw [← hPe] at f0
      rw [← hQe] at f1
      have HPe := Lib.hid hPe
      have HQe := Lib.hid hQe
      have g0 := cell_below Hb.out f0
      have g1 := cell_below Hb.out f1
      obtain ⟨w3, ew3, hb3, hsz3, s0, s1⟩ := box_stop wo P Q
      have Hew3 := Lib.hid ew3
      have Hb3 := Lib.hid (bel2 Hb.out hb3)
      have HB3 := Lib.hid (Hbb.out.trans ((bel2 Hb.out hb3).mono hszw))
      have Hx3 := Lib.hid (Hx2.out.below Hb3.out)
      have hi0 : (0 : Int) ≤ (k : Int) := by omega
      have hi1 : (k : Int) < (n : Int) := by omega
      clear hPe hQe f0 f1 ew3 hb3 hsz3
      go_upto_region 7 with fail
      rw [Hew3.out]
      clear c0 c1 c2 c3 c4 c5 p0 g0 g1
      obtain ⟨c0, c1, c2, c3, c4, c5⟩ := Hx3.out
      generalize wo.heap.size = gs at *
      obtain ⟨b1, hb1⟩ : ∃ b, decide (P < 0) = b := ⟨_, rfl⟩
      obtain ⟨b2, hb2⟩ : ∃ b, decide ((N : Int) ≤ P) = b := ⟨_, rfl⟩
      obtain ⟨b3, hb3⟩ : ∃ b, decide (Q < 1) = b := ⟨_, rfl⟩
      obtain ⟨b4, hb4⟩ : ∃ b, decide (2147483648 < Q) = b := ⟨_, rfl⟩
      by_cases hall : b1 = false ∧ b2 = false ∧ b3 = false ∧ b4 = false
      · obtain ⟨rfl, rfl, rfl, rfl⟩ := hall
        have HSt := Lib.hid (stopsTo_succ HS.out HPe.out HQe.out hb1 hb2 hb3 hb4)
        go_wp2_with fail
        go_roundw
        case rel => exact ⟨k + 1, _, by go_num, rfl, Nat.succ_le_of_lt hlt, HSt.out, Hb3.out⟩
        case measure => simp only [intOf]; first | exact meas_one hlt | exact meas_oneW hlt (by omega)
      · cases b1 <;> cases b2 <;> cases b3 <;> cases b4 <;> first
          | exact absurd ⟨rfl, rfl, rfl, rfl⟩ hall
          | (clear hall
             go_wp2_with fail
             go_ret
             exact MayOut.no (by decide) HB3.out)
    · have hkn : n = k := by omega
      subst hkn
      have Hall : Hid (StopsTo N r r.length) := Lib.hid (by rw [Hn.out]; exact HS.out)
      have Hcu := Lib.hid (custsOf_is (.slice a n c) r wo (HP.out.below Hb.out) (by rw [Hn.out]; omega))
      clear hk
      go_wp2_with fail
      refine Hcu.out.mono ?_
      rintro e w3 ⟨lv, rfl, hown, hb3⟩
      obtain ⟨la, ln, lc, rfl⟩ := own_slice hown
      have Hli := Lib.hid hown.ints
      have Hb3 := Lib.hid (bel2 Hb.out hb3)
      have hlenl : (r.map (·.1)).length ≤ 1000000 := by rw [List.length_map, Hn.out]; omega
      have Htw := Lib.hid (twice_is (.slice la ln lc) (r.map (·.1)) w3 hown.ints hlenl)
      clear hown hb3 hlenl c0 c1 c2 c3 c4 c5 p0
      go_wp2_with fail
      refine Htw.out.mono ?_
      rintro e w4 ⟨bt, rfl, hnd, hb4⟩
      have Hli4 := Lib.hid (Hli.out.below hb4)
      have Hb4 := Lib.hid (bel2 Hb3.out hb4)
      have HB4 := Lib.hid (Hbb.out.trans (Hb4.out.mono hszw))
      have Hnd := Lib.hid hnd
      clear hb4 hnd
      cases bt with
      | true =>
        go_wp2_with fail
        go_ret
        exact MayOut.no (by decide) HB4.out
      | false =>
        have HPr := Lib.hid (HP.out.below Hb4.out)
        have hmem := stopsTo_mem Hall.out
        have HLd := Lib.hid (fun (W : World) (h : Below w4.heap.size w4 W) => loadOf_is (.slice a n c) r W (HPr.out.below h) (by rw [Hn.out]; omega) (fun s hs => by have := hmem s hs; omega))
        have Hmem := Lib.hid hmem
        obtain ⟨S, hSe⟩ : ∃ S, S = (r.map (·.2)).sum := ⟨_, rfl⟩
        rw [← hSe] at HLd
        have HSe := Lib.hid hSe
        have hx4 := Hx2.out.below Hb4.out
        have x0 := Ext.cell hx4.c0
        have x1 := Ext.cell hx4.c1
        have x2 := Ext.cell hx4.c2
        have x3 := Ext.cell hx4.c3
        have x4 := Ext.cell hx4.c4
        have x5 := Ext.cell hx4.c5
        have y0 := Ext.cell (cell_below Hb4.out Hp0.out)
        clear hmem hSe hx4
        obtain ⟨b1, hb1⟩ : ∃ b, decide (cap < S) = b := ⟨_, rfl⟩
        go_upto_region 12 with fail
        refine wp_region_ext (by kernel_rfl) (by kernel_rfl) ?_
        repeat (go_big_quiet_step (first
          | (go_at_call 92; with_reducible exact ext_cost _ (HLd.out _ (Ext.below _)))))
        refine wpQuiet_nil ?_
        intro _ hw'
        obtain ⟨z, rfl⟩ := hw'
        have Hb5 := Lib.hid (bel2 Hb4.out z.below)
        have Hli5 := Lib.hid (Hli4.out.below z.below)
        generalize z.w = w5 at *
        have HB5 := Lib.hid (Hbb.out.trans (Hb5.out.mono hszw))
        clear x0 x1 x2 x3 x4 x5 y0
        cases b1 with
        | true =>
          go_wp2_with fail
          go_ret
          exact MayOut.no (by decide) HB5.out
        | false =>
          have Hld : Hid ((r.map (·.2)).sum ≤ cap) := Lib.hid (by rw [← HSe.out]; rw [decide_eq_false_iff_not] at hb1; omega)
          have HWa := Lib.hid (fun (W : World) (h : Below w5.heap.size w5 W) => refWay_is i0 i1 cap i3 (.slice ca N cc) (.slice da dn dc) (.slice la ln lc) D (r.map (·.1)) W (HG.out.below (bel2 Hb5.out h)) HD.out (Hli5.out.below h) (by rw [List.length_map, Hn.out]; exact hn0) (by rw [List.length_map, Hn.out]; exact hn1) (fun k => custs_bd Hall.out (by omega) k))
          generalize wayI D (r.map (·.1)) = WY at *
          have hx5 := Hx2.out.below Hb5.out
          have x0 := Ext.cell hx5.c0
          have x1 := Ext.cell hx5.c1
          have x2 := Ext.cell hx5.c2
          have x3 := Ext.cell hx5.c3
          have x4 := Ext.cell hx5.c4
          have x5 := Ext.cell hx5.c5
          obtain ⟨b2, hb2⟩ : ∃ b, decide (i3 < WY) = b := ⟨_, rfl⟩
          clear hx5
          go_upto_region 14 with fail
          refine wp_region_ext (by kernel_rfl) (by kernel_rfl) ?_
          repeat (go_big_quiet_step (first
            | (go_at_call 75; with_reducible exact ext_cost _ (HWa.out _ (Ext.below _)))))
          refine wpQuiet_nil ?_
          intro _ hw'
          obtain ⟨z, rfl⟩ := hw'
          have HB6 := Lib.hid (HB5.out.trans (z.below.mono HB5.out.size))
          generalize z.w = w6 at *
          clear x0 x1 x2 x3 x4 x5
          cases b2 with
          | true =>
            go_wp2_with fail
            go_ret
            exact MayOut.no (by decide) HB6.out
          | false =>
            have HT : Hid (TourD L.length cap r) := Lib.hid ⟨by rw [Hn.out]; exact hn0, fun s hs => by rw [HN.out]; exact Hmem.out s hs, (by first | exact Hnd.out trivial | exact Hnd.out rfl), Hld.out⟩
            go_wp2_with fail
            go_ret
            exact ⟨0, rfl, fun _ => HT.out, HB6.out⟩
end

section
open Go.RowKit
set_option linter.unusedVariables false
set_option maxRecDepth 100000
attribute [local go_sem ↓] Go.wp_at_zero Go.wp_at_succ

def custsTo (T : List (List (Int × Int))) (k : Nat) : List Int := (T.take k).flatten.map (·.1)
theorem takeT_succ (T : List (List (Int × Int))) (k : Nat) (h : k < T.length) : T.take (k + 1) = T.take k ++ [nthT T k] := by
  rw [List.take_succ_eq_append_getElem h]
  simp [nthT, h]
theorem custsTo_succ (T : List (List (Int × Int))) (k : Nat) (h : k < T.length) : custsTo T (k + 1) = custsTo T k ++ (nthT T k).map (·.1) := by
  unfold custsTo
  rw [takeT_succ T k h, List.flatten_append, List.map_append]
  simp
theorem custsTo_len (T : List (List (Int × Int))) (h : ∀ r ∈ T, r.length ≤ 1000) (k : Nat) (hk : k ≤ T.length) : (custsTo T k).length ≤ 1000 * k := by
  induction k with
  | zero => simp [custsTo]
  | succ k ih =>
    have h1 := ih (by omega)
    have h2 := h (nthT T k) (by simp [nthT, show k < T.length by omega])
    rw [custsTo_succ T k (by omega), List.length_append, List.length_map]
    omega
theorem custsTo_all (T : List (List (Int × Int))) : custsTo T T.length = T.flatten.map (·.1) := by unfold custsTo; rw [List.take_length]
theorem nthT_in {T : List (List (Int × Int))} {i : Nat} (h : i < T.length) : nthT T i ∈ T := by
  have : nthT T i = T[i] := by simp [nthT, h]
  rw [this]; exact List.getElem_mem h
theorem ofTo {T : List (List (Int × Int))} {Q : List (Int × Int) → Prop} (h : ∀ m, m < T.length → Q (nthT T m)) : ∀ r ∈ T, Q r := by
  intro r hr
  obtain ⟨i, hi, rfl⟩ := List.getElem_of_mem hr
  have := h i hi
  rwa [show nthT T i = T[i] by simp [nthT, hi]] at this

set_option maxRecDepth 100000 in
set_option maxHeartbeats 3200000 in
theorem dayT_is (i0 i1 cap i3 : Int) (cv dv tv : Value) (L : List Cu) (D : List (List Int)) (T : List (List (Int × Int))) (w : World) (hC : Custs w cv L) (hG : Grid w dv D) (hD : ArcBd D) (hL : L.length ≤ 1000) (h : Tours w tv T) (hT : T.length ≤ 1000) (hr : ∀ r ∈ T, r.length ≤ 1000) :
    Calls Tryz.prog 43 #[.agg #[.int .i64 i0, .int .i64 i1, .int .i64 cap, .int .i64 i3, cv, dv], .agg #[tv]] w (MayOut w (DayD L.length cap T)) := by
  obtain ⟨w1, ew, hb1, hsz1, hx⟩ := box_inst w (.int .i64 i0) (.int .i64 i1) (.int .i64 cap) (.int .i64 i3) cv dv
  obtain ⟨w2, ew2, hb2, hsz2, p0⟩ := box_day w1 tv
  rw [hsz1] at p0
  have hbb := bel2 hb1 hb2
  have hx2 := hx.below hb2
  obtain ⟨c0, c1, c2, c3, c4, c5⟩ := hx2
  have hC2 := hC.below hbb
  obtain ⟨ca, N, cc, rfl, hN, _, _⟩ := hC2.open
  have hG2 := hG.below hbb
  obtain ⟨da, dn, dc, rfl, _, _, _⟩ := hG2.open
  obtain ⟨a, n, c, rfl, hn, _, hc⟩ := (h.below hbb).open
  have Hew := Lib.hid ew
  have Hew2 := Lib.hid ew2
  have Hbb := Lib.hid hbb
  have Hn := Lib.hid hn
  have HN := Lib.hid hN
  have Hc := Lib.hid hc
  have HD := Lib.hid hD
  have Hr := Lib.hid hr
  have Hlen := Lib.hid (custsTo_len T hr)
  have Hx2 := Lib.hid (hx.below hb2)
  have Hp0 := Lib.hid p0
  have HM := Lib.hid (fun (W : World) (sv : Value) (r : List (Int × Int)) (h : Below w2.heap.size w2 W) (hp : Pairs W sv r) (hr : r.length ≤ 1000) => mayT_is i0 i1 cap i3 (.slice ca N cc) (.slice da dn dc) sv L D r W (hC2.below h) (hG2.below h) hD hL hp hr)
  have hn1 : n ≤ 1000 := by omega
  have hszw : w.heap.size ≤ w2.heap.size := hbb.size
  clear ew ew2 hx hC hC2 hG hG2 hD h hn hN hc hb2 hsz1 hsz2 hL hr hbb hb1 hT
  go_enter Tryz.func43, Tryz.ntmps43
  go_upto_region 1 with (fail)
  rw [Hew.out]
  rw [Hew2.out]
  generalize w.heap.size + 1 = gt at *
  obtain ⟨gi, hgi⟩ : ∃ gi, gi = w.heap.size := ⟨_, rfl⟩
  go_wp2_with fail
  go_loopw [5, 6, 7] (fun v i z wr => ∃ (k : Nat) (y x : Value), i = .int .i64 k ∧ y = z ∧ x = v ∧ k ≤ n ∧ (∀ m, m < k → TourD L.length cap (nthT T m)) ∧ Own wr w2.heap.size x (custsTo T k) ∧ Below w2.heap.size w2 wr) (fun _ i _ _ => n - (intOf i).toNat)
  case atStart => exact ⟨0, _, _, rfl, rfl, rfl, Nat.zero_le _, fun m hm => absurd hm (Nat.not_lt_zero _), Own.nil _ _, Below.refl _ _⟩
  case round =>
    obtain ⟨k, y, x, rfl, rfl, rfl, hk, hS, hown, hb⟩ := hrel
    obtain ⟨wo, rfl⟩ : ∃ wo : World, wo = wr := ⟨_, rfl⟩
    have HS := Lib.hid hS
    have Hb := Lib.hid hb
    have Hown := Lib.hid hown
    obtain ⟨c0, c1, c2, c3, c4, c5⟩ := Hx2.out.below hb
    have p0 := cell_below hb Hp0.out
    have hszo : w2.heap.size ≤ wo.heap.size := hb.size
    clear hS hb hown
    by_cases hlt : k < n
    · obtain ⟨b, o, sa, sn, sc, rfl, f0, hpr⟩ := Hc.out k hlt
      have hmem := Hr.out _ (nthT_in (T := T) (i := k) (by rw [Hn.out]; exact hlt))
      have Hmem := Lib.hid hmem
      have Hpr := Lib.hid hpr
      have f0 := cell_below Hb.out f0
      have Hf0 := Lib.hid f0
      have HMk := Lib.hid (fun (W : World) (h : Below wo.heap.size wo W) => HM.out W (.slice sa sn sc) (nthT T k) (bel2 Hb.out h) (hpr.below (bel2 Hb.out h)) hmem)
      have hi0 : (0 : Int) ≤ (k : Int) := by omega
      have hi1 : (k : Int) < (n : Int) := by omega
      have b0 := Below.refl wo.heap.size wo
      clear hpr hmem
      go_upto_region 5 with fail
      go_cut [7] (fun s7 wx => ∃ v : Int, s7 = .int .i64 v ∧ (v = 0 → TourD L.length cap (nthT T k)) ∧ Below wo.heap.size wo wx)
      case first =>
        go_region_held3 (fun w' => w'.cell? ⟨w.heap.size, 0, none⟩ = some (.int .i64 i0) ∧ w'.cell? ⟨w.heap.size, 1, none⟩ = some (.int .i64 i1) ∧ w'.cell? ⟨w.heap.size, 2, none⟩ = some (.int .i64 cap) ∧ w'.cell? ⟨w.heap.size, 3, none⟩ = some (.int .i64 i3) ∧ w'.cell? ⟨w.heap.size, 4, none⟩ = some (.slice ca N cc) ∧ w'.cell? ⟨w.heap.size, 5, none⟩ = some (.slice da dn dc) ∧ w'.cell? ⟨gt, 0, none⟩ = some (.slice (some ⟨b, o, none⟩) n c) ∧ w'.cell? ⟨b, o + k, none⟩ = some (.slice sa sn sc))
          (first | go_keep | exact ⟨cell_below b5 c0, cell_below b5 c1, cell_below b5 c2, cell_below b5 c3, cell_below b5 c4, cell_below b5 c5, cell_below b5 p0, cell_below b5 f0⟩)
          (first
            | (go_at_call 66; refine (HMk.out _ ?_).mono ?_; (first | exact b0 | exact belDrew _); rintro e wM ⟨v, rfl, hv, hb5⟩; have Hv := Lib.hid hv; clear hv; (first | have b5 := bel2 b0 hb5 | have b5 := bel2 (belDrew wo) hb5)))
        all_goals
          go_wp2_with fail
          go_meet
          first
            | exact ⟨v, rfl, Hv.out, b5⟩
            | exact ⟨v, rfl, Hv.out, b5.drew⟩
      case rest =>
      obtain ⟨v, rfl, hv, hbc⟩ := hcut
      obtain ⟨w5, rfl⟩ : ∃ w5 : World, w5 = wc := ⟨_, rfl⟩
      have Hv := Lib.hid hv
      have Hb5 := Lib.hid (bel2 Hb.out hbc)
      have Hown5 := Lib.hid (Hown.out.below hbc)
      have HB5 := Lib.hid (Hbb.out.trans (Hb5.out.mono hszw))
      have hsz5 : w2.heap.size ≤ w5.heap.size := Hb5.out.size
      have Hf5 := Lib.hid (cell_below hbc Hf0.out)
      clear hv hbc c0 c1 c2 c3 c4 c5 p0 f0 b0
      obtain ⟨c0, c1, c2, c3, c4, c5⟩ := Hx2.out.below Hb5.out
      have p0 := cell_below Hb5.out Hp0.out
      have f0 := Hf5.out
      by_cases hv0 : v = 0
      · subst hv0
        have Ht := Lib.hid (Hv.out rfl)
        have Hcu := Lib.hid (custsOf_is (.slice sa sn sc) (nthT T k) w5 (Hpr.out.below Hb5.out) (Nat.le_trans Hmem.out (by decide)))
        have hq : ((0 : Int) != 0) = false := by simp
        go_wp2_with fail
        refine Hcu.out.mono ?_
        rintro e w6 ⟨lv, rfl, hown6, hb6⟩
        have Hli6 := Lib.hid hown6.ints
        have Hpos : Hid (0 < ((nthT T k).map (·.1)).length) := Lib.hid (by rw [List.length_map]; exact Ht.out.some)
        have HownA := Lib.hid (Hown5.out.below hb6)
        have Hb6 := Lib.hid (bel2 Hb5.out hb6)
        have hsz6 : w2.heap.size ≤ w6.heap.size := Hb6.out.size
        have Hll : Hid ((custsTo T k).length + ((nthT T k).map (·.1)).length ≤ 17592186044416) := Lib.hid (by
          have h1 := Hlen.out k (by rw [Hn.out]; omega)
          have h2 := Hmem.out
          rw [List.length_map]; omega)
        have Hst := Lib.hid (custsTo_succ T k (by rw [Hn.out]; exact hlt))
        obtain ⟨la, ln, lc, rfl⟩ := own_slice hown6
        clear hown6 hb6 c0 c1 c2 c3 c4 c5 p0 f0
        go_wp2_with (at_builtin; go_loud (refine wpList_pushAll rfl _ _ rfl w6 w2.heap.size x (custsTo T k) ((nthT T k).map (·.1)) rfl (.slice la ln lc) rfl Hli6.out Hpos.out HownA.out Hll.out hsz6 ?_))
        intro v' w7 hown7 hg7 hb7
        rw [← Hst.out] at hown7
        have Hown7 := Lib.hid hown7
        have Hb7 := Lib.hid (Hb6.out.trans hb7)
        clear hown7 hg7 hb7
        go_wp2_with fail
        go_roundw
        case rel => exact ⟨k + 1, _, _, by go_num, rfl, rfl, Nat.succ_le_of_lt hlt, fun m hm => (by
          by_cases e : m = k
          · subst e; exact Ht.out
          · exact HS.out m (Nat.lt_of_le_of_ne (Nat.le_of_lt_succ hm) e)), Hown7.out, Hb7.out⟩
        case measure => simp only [intOf]; first | exact meas_one hlt | exact meas_oneW hlt (by omega)
      · have hq : (v != 0) = true := by simpa using hv0
        have Hv0 := Lib.hid hv0
        clear hv0
        go_wp2_with fail
        go_ret
        exact MayOut.no Hv0.out HB5.out
    · have hkn : n = k := by omega
      subst hkn
      clear hk
      obtain ⟨la, ln, lc, rfl⟩ := own_slice Hown.out
      have HBo := Lib.hid (Hbb.out.trans (Hb.out.mono hszw))
      have Htw := Lib.hid (twice_is (.slice la ln lc) (custsTo T n) wo Hown.out.ints (by have := Hlen.out n (by rw [Hn.out]; omega); omega))
      go_wp2_with fail
      refine Htw.out.mono ?_
      rintro e w4 ⟨bt, rfl, hnd, hb4⟩
      have Hnd := Lib.hid hnd
      have HB4 := Lib.hid (HBo.out.trans (hb4.mono HBo.out.size))
      obtain ⟨d0, d1, d2, d3, d4, d5⟩ := Hx2.out.below (bel2 Hb.out hb4)
      have q0 := cell_below (bel2 Hb.out hb4) Hp0.out
      clear hnd hb4 c0 c1 c2 c3 c4 c5 p0
      obtain ⟨b1, hb1⟩ : ∃ b, decide (i1 < (n : Int)) = b := ⟨_, rfl⟩
      cases bt with
      | true =>
        go_wp2_with fail
        go_ret
        exact MayOut.no (by decide) HB4.out
      | false =>
        cases b1 with
        | true =>
          go_wp2_with fail
          go_ret
          exact MayOut.no (by decide) HB4.out
        | false =>
          have Hdd : Hid (DayD L.length cap T) := Lib.hid ⟨ofTo (by rw [Hn.out]; exact HS.out), by
            rw [← custsTo_all, Hn.out]
            first | exact Hnd.out trivial | exact Hnd.out rfl⟩
          go_wp2_with fail
          go_ret
          exact ⟨0, rfl, fun _ => Hdd.out, HB4.out⟩
end

section
open Go.RowKit
set_option linter.unusedVariables false
set_option maxRecDepth 100000
attribute [local go_sem ↓] Go.wp_at_zero Go.wp_at_succ

/-- A plan of a size that the walks bear. -/
structure SmallP (P : List (List (List (Int × Int)))) : Prop where
  len : P.length ≤ 64
  tours : ∀ d, d < P.length → (nthD P d).length ≤ 1000
  stops : ∀ d, d < P.length → ∀ r ∈ nthD P d, r.length ≤ 1000
def visD (i : Int) (P : List (List (List (Int × Int)))) (d t : Nat) : List (Int × Int) := visTo i P d ++ selD i d ((nthD P d).take t).flatten
def visS (i : Int) (P : List (List (List (Int × Int)))) (d t s : Nat) : List (Int × Int) := visD i P d t ++ selD i d ((nthT (nthD P d) t).take s)
theorem selD_len (i d : Int) (xs : List (Int × Int)) : (selD i d xs).length ≤ xs.length := by unfold selD; rw [List.length_map]; exact List.length_filter_le _ _
theorem visTo_all (i : Int) (P : List (List (List (Int × Int)))) (d : Nat) : visD i P d (nthD P d).length = visTo i P (d + 1) := by unfold visD; rw [List.take_length, visTo]
theorem visD_zero (i : Int) (P : List (List (List (Int × Int)))) (d : Nat) : visD i P d 0 = visTo i P d := by simp [visD, selD]
theorem visS_zero (i : Int) (P : List (List (List (Int × Int)))) (d t : Nat) : visS i P d t 0 = visD i P d t := by simp [visS, selD]
theorem visD_all (i : Int) (P : List (List (List (Int × Int)))) (d t : Nat) (h : t < (nthD P d).length) : visS i P d t (nthT (nthD P d) t).length = visD i P d (t + 1) := by
  unfold visS visD
  rw [List.take_length, takeT_succ _ t h, List.flatten_append, selD_append, ← List.append_assoc]
  simp
theorem visS_succ (i : Int) (P : List (List (List (Int × Int)))) (d t s : Nat) (h : s < (nthT (nthD P d) t).length) : visS i P d t (s + 1) = visS i P d t s ++ (if (nthP (nthT (nthD P d) t) s).1 = i then [((d : Int), (nthP (nthT (nthD P d) t) s).2)] else []) := by
  unfold visS
  rw [takeP_succ _ s h, selD_append, selD_one, ← List.append_assoc]
theorem flat_bd (T : List (List (Int × Int))) (h : ∀ r ∈ T, r.length ≤ 1000) (k : Nat) (hk : k ≤ T.length) : (T.take k).flatten.length ≤ 1000 * k := by
  have := custsTo_len T h k hk
  unfold custsTo at this
  rwa [List.length_map] at this
theorem vis_len {P : List (List (List (Int × Int)))} (h : SmallP P) (i : Int) (d : Nat) (hd : d ≤ P.length) : (visTo i P d).length ≤ 1000000 * d := by
  induction d with
  | zero => simp [visTo]
  | succ d ih =>
    have h1 := ih (by omega)
    have h2 := selD_len i d (nthD P d).flatten
    have h3 := flat_bd (nthD P d) (h.stops d (by omega)) (nthD P d).length (Nat.le_refl _)
    have h4 := h.tours d (by omega)
    rw [List.take_length] at h3
    rw [visTo, List.length_append]
    omega
theorem visS_len {P : List (List (List (Int × Int)))} (h : SmallP P) (i : Int) (d t s : Nat) (hd : d < P.length) (ht : t < (nthD P d).length) : (visS i P d t s).length ≤ 100000000 := by
  have h1 := vis_len h i d (by omega)
  have h2 := selD_len i d ((nthD P d).take t).flatten
  have h3 := flat_bd (nthD P d) (h.stops d hd) t (by omega)
  have h4 := h.tours d hd
  have h5 := selD_len i d ((nthT (nthD P d) t).take s)
  have h6 := h.stops d hd _ (nthT_in ht)
  have h7 := h.len
  have h8 : ((nthT (nthD P d) t).take s).length ≤ (nthT (nthD P d) t).length := by rw [List.length_take]; exact Nat.min_le_right _ _
  unfold visS visD
  rw [List.length_append, List.length_append]
  omega

set_option maxRecDepth 100000 in
set_option maxHeartbeats 3200000 in
theorem visits08_is (dv : Value) (P : List (List (List (Int × Int)))) (i : Int) (w : World) (h : DaysP w dv P) (hP : SmallP P) :
    Calls Tryz.prog 70 #[.agg #[dv], .int .i64 i] w fun e w' => ∃ v, e = .returned v ∧ OwnV w' w.heap.size v (visTo i P P.length) ∧ Below w.heap.size w w' := by
  obtain ⟨w1, ew, hb1, hsz1, p0⟩ := box_plan w dv
  obtain ⟨a, n, c, rfl, hn, _, hc⟩ := (h.below hb1).open
  have Hew := Lib.hid ew
  have Hb1 := Lib.hid hb1
  have Hn := Lib.hid hn
  have Hc := Lib.hid hc
  have HP := Lib.hid hP
  have Hp0 := Lib.hid p0
  have hszw : w.heap.size ≤ w1.heap.size := hb1.size
  have hn1 : n ≤ 64 := by have := hP.len; omega
  clear ew hb1 h hn hc hsz1 hP
  go_enter Tryz.func70, Tryz.ntmps70
  go_upto_region 1 with (fail)
  rw [Hew.out]
  go_wp2_with fail
  go_loopw [5, 6, 7, 8, 9] (fun v j z7 z8 z9 wr => ∃ (d : Nat) (y y7 y8 y9 : Value), y7 = z7 ∧ y8 = z8 ∧ y9 = z9 ∧ j = .int .i64 d ∧ y = v ∧ d ≤ n ∧ OwnV wr w1.heap.size y (visTo i P d) ∧ Below w1.heap.size w1 wr) (fun _ j _ _ _ _ => n - (intOf j).toNat)
  case atStart => exact ⟨0, _, _, _, _, rfl, rfl, rfl, rfl, rfl, Nat.zero_le _, OwnV.nil _ _, Below.refl _ _⟩
  case round =>
    obtain ⟨d, y, y7, y8, y9, rfl, rfl, rfl, rfl, rfl, hd, hown, hb⟩ := hrel
    obtain ⟨wo, rfl⟩ : ∃ wo : World, wo = wr := ⟨_, rfl⟩
    have Hb := Lib.hid hb
    have Hown := Lib.hid hown
    have p0 := cell_below hb Hp0.out
    clear hb hown
    by_cases hlt : d < n
    · obtain ⟨b, o, ta, tn, tc, rfl, f0, htr⟩ := Hc.out d hlt
      have hi0 : (0 : Int) ≤ (d : Int) := by omega
      have hi1 : (d : Int) < (n : Int) := by omega
      have hdP : d < P.length := by rw [Hn.out]; exact hlt
      obtain ⟨_, tm, _, he, htn, _, htc⟩ := htr.open
      simp only [Value.slice.injEq] at he
      obtain ⟨rfl, rfl, rfl⟩ := he
      have Hf0 := Lib.hid f0
      have Htn := Lib.hid htn
      have Htc := Lib.hid htc
      have HdP := Lib.hid hdP
      have Hvz := Lib.hid (visD_zero i P d)
      have htn1 : tn ≤ 1000 := by have := HP.out.tours d hdP; omega
      clear f0 htr htn htc hdP
      go_wp2_with fail
      go_loopw [5, 7, 8, 9] (fun v j z8 z9 wr => ∃ (t : Nat) (x x8 x9 : Value), x8 = z8 ∧ x9 = z9 ∧ j = .int .i64 t ∧ x = v ∧ t ≤ tn ∧ OwnV wr w1.heap.size x (visD i P d t) ∧ Below w1.heap.size w1 wr) (fun _ j _ _ _ => tn - (intOf j).toNat)
      case atStart => exact ⟨0, _, _, _, rfl, rfl, rfl, rfl, Nat.zero_le _, by rw [Hvz.out]; exact Hown.out, Hb.out⟩
      case round =>
        obtain ⟨t, x, x8, x9, rfl, rfl, rfl, rfl, ht, hown2, hb2⟩ := hrel
        obtain ⟨wm, rfl⟩ : ∃ wm : World, wm = wr := ⟨_, rfl⟩
        have Hb2 := Lib.hid hb2
        have Hown2 := Lib.hid hown2
        clear p0
        have p0 := cell_below hb2 Hp0.out
        have f0 := cell_below hb2 Hf0.out
        clear hb2 hown2
        by_cases hlt2 : t < tn
        · obtain ⟨b', o', sa, sn, sc, rfl, g0, hpr⟩ := Htc.out t hlt2
          have hj0 : (0 : Int) ≤ (t : Int) := by omega
          have hj1 : (t : Int) < (tn : Int) := by omega
          obtain ⟨_, sm, _, he, hsn, _, hsc⟩ := hpr.open
          simp only [Value.slice.injEq] at he
          obtain ⟨rfl, rfl, rfl⟩ := he
          have g0 := cell_below Hb2.out g0
          have Hsn := Lib.hid hsn
          have Hsc := Lib.hid hsc
          have Hvz2 := Lib.hid (visS_zero i P d t)
          have htT : t < (nthD P d).length := by rw [Htn.out]; exact hlt2
          have HtT := Lib.hid htT
          have hsn1 : sn ≤ 1000 := by have := HP.out.stops d HdP.out _ (nthT_in htT); omega
          clear hpr hsn hsc htT
          go_wp2_with fail
          go_loopw [5, 9] (fun v j wr => ∃ (s : Nat) (z : Value), j = .int .i64 s ∧ z = v ∧ s ≤ sn ∧ OwnV wr w1.heap.size z (visS i P d t s) ∧ Below w1.heap.size w1 wr) (fun _ j _ => sn - (intOf j).toNat)
          case atStart => exact ⟨0, _, rfl, rfl, Nat.zero_le _, by rw [Hvz2.out]; exact Hown2.out, Hb2.out⟩
          case round =>
            obtain ⟨s, z, rfl, rfl, hs, hown3, hb3⟩ := hrel
            obtain ⟨wi, rfl⟩ : ∃ wi : World, wi = wr := ⟨_, rfl⟩
            have Hb3 := Lib.hid hb3
            have Hown3 := Lib.hid hown3
            have hszi : w1.heap.size ≤ wi.heap.size := hb3.size
            clear hb3 hown3 p0 f0 g0
            by_cases hlt3 : s < sn
            · obtain ⟨b2, o2, rfl, q0, q1⟩ := Hsc.out s hlt3
              have q0 := cell_below Hb3.out q0
              have q1 := cell_below Hb3.out q1
              have hk0 : (0 : Int) ≤ (s : Int) := by omega
              have hk1 : (s : Int) < (sn : Int) := by omega
              have hst := visS_succ i P d t s (by rw [Hsn.out]; exact hlt3)
              have Hll : Hid ((visS i P d t s).length + 1 ≤ 8796093022208) := Lib.hid (by have := visS_len HP.out i d t s HdP.out HtT.out; omega)
              generalize (nthP (nthT (nthD P d) t) s).1 = X at *
              generalize (nthP (nthT (nthD P d) t) s).2 = Q at *
              by_cases hx : X = i
              · subst hx
                rw [if_pos rfl] at hst
                have Hst := Lib.hid hst
                have hq : (X == X) = true := by simp
                clear hst
                go_wp2_with (at_builtin; refine wpList_pushV rfl _ _ rfl wi w1.heap.size z (visS X P d t s) d Q rfl rfl Hown3.out Hll.out hszi ?_)
                intro v' w5 hown5 g5 hb5
                rw [← Hst.out] at hown5
                have Hown5 := Lib.hid hown5
                have Hb5 := Lib.hid (Hb3.out.trans hb5)
                clear hown5 g5 hb5 q0 q1
                go_wp2_with fail
                go_roundw
                case rel => exact ⟨s + 1, _, by go_num, rfl, Nat.succ_le_of_lt hlt3, Hown5.out, Hb5.out⟩
                case measure => simp only [intOf]; first | exact meas_one hlt3 | exact meas_oneW hlt3 (by omega)
              · rw [if_neg hx, List.append_nil] at hst
                have Hst := Lib.hid hst
                have hq : (X == i) = false := by simpa using hx
                clear hst hx
                go_wp2_with fail
                go_roundw
                case rel => exact ⟨s + 1, _, by go_num, rfl, Nat.succ_le_of_lt hlt3, by rw [Hst.out]; exact Hown3.out, Hb3.out⟩
                case measure => simp only [intOf]; first | exact meas_one hlt3 | exact meas_oneW hlt3 (by omega)
            · have hse : s = sn := by omega
              have Hst := Lib.hid (visD_all i P d t HtT.out)
              rw [Hsn.out, ← hse] at Hst
              clear hs
              subst hse
              go_wp2_with fail
              go_roundw
              case rel => exact ⟨t + 1, _, _, _, rfl, rfl, by go_num, rfl, Nat.succ_le_of_lt hlt2, by rw [← Hst.out]; exact Hown3.out, Hb3.out⟩
              case measure => simp only [intOf]; first | exact meas_one hlt2 | exact meas_oneW hlt2 (by omega)
        · have hte : t = tn := by omega
          have Hst := Lib.hid (visTo_all i P d)
          rw [Htn.out, ← hte] at Hst
          clear ht
          subst hte
          go_wp2_with fail
          go_roundw
          case rel => exact ⟨d + 1, _, _, _, _, rfl, rfl, rfl, by go_num, rfl, Nat.succ_le_of_lt hlt, by rw [← Hst.out]; exact Hown2.out, Hb2.out⟩
          case measure => simp only [intOf]; first | exact meas_one hlt | exact meas_oneW hlt (by omega)
    · have hdn : d = n := by omega
      have Hr : Hid (visTo i P d = visTo i P P.length) := Lib.hid (by rw [Hn.out, hdn])
      have HBo := Lib.hid (Hb1.out.trans (Hb.out.mono hszw))
      clear hd
      subst hdn
      go_wp2_with fail
      go_ret
      exact ⟨_, rfl, by rw [← Hr.out]; exact Hown.out.mono hszw, HBo.out⟩
end

section
open Go.RowKit
set_option linter.unusedVariables false
set_option maxRecDepth 100000
attribute [local go_sem ↓] Go.wp_at_zero Go.wp_at_succ

theorem info_tour : (Tryz.prog.info? 102).map (fun i => (i.zero, i.size, i.bytes)) = some (some (.agg #[.slice none 0 0]), 1, 24) := by kernel_rfl
theorem box_dayF (w : World) (sv : Value) : ∃ w1, w.alloc (.cells #[sv] 81) = w1 ∧ Below w.heap.size w w1 ∧ w1.heap.size = w.heap.size + 1 ∧ w1.cell? ⟨w.heap.size, 0, none⟩ = some sv ∧ w1.frozen? ⟨w.heap.size, 0, none⟩ = false := ⟨_, rfl, belAlloc _ _, by simp, by simp [go_sem], by simp [go_sem]⟩
theorem box_tourF (w : World) (sv : Value) : ∃ w1, w.alloc (.cells #[sv] 102) = w1 ∧ Below w.heap.size w w1 ∧ w1.heap.size = w.heap.size + 1 ∧ w1.cell? ⟨w.heap.size, 0, none⟩ = some sv ∧ w1.frozen? ⟨w.heap.size, 0, none⟩ = false := ⟨_, rfl, belAlloc _ _, by simp, by simp [go_sem], by simp [go_sem]⟩
theorem tours_of {w : World} {B g n c : Nat} {rvs : List Value} {T : List (List (Int × Int))} (h : w.ownsRow B 102 1 (.slice (some ⟨g, 0, none⟩) n c) n rvs) (hl : T.length = n) (hv : rvs.length = n) (hn : n ≤ 1000000) (hr : ∀ i, i < n → Pairs w (rvs.getD i undef) (nthT T i)) : Tours w (.slice (some ⟨g, 0, none⟩) n c) T := by
  refine ⟨_, c, by rw [hl], by omega, fun i hi => ?_⟩
  obtain ⟨g', hg', hc⟩ := owns_cell h i (rvs.getD i undef) (by simp [List.getD, show i < rvs.length by omega])
  simp only [Value.ownBlock, Option.some.injEq] at hg'
  subst hg'
  exact ⟨g, 0, _, rfl, by rw [Nat.zero_add]; exact hc, hr i (by omega)⟩
/-- A day's tours as they lie in memory, of a size that the walks bear. -/
structure DayAt (m : Nat) (w : World) (tv : Value) (T : List (List (Int × Int))) : Prop where
  tours : Tours w tv T
  nil : T = [] → tv = .slice none 0 0
  len : T.length ≤ m
  rows : ∀ r ∈ T, 0 < r.length ∧ r.length ≤ m
theorem DayAt.below {m : Nat} {w w' : World} {tv : Value} {T : List (List (Int × Int))} (h : DayAt m w tv T) (hb : Below w.heap.size w w') : DayAt m w' tv T := ⟨h.tours.below hb, h.nil, h.len, h.rows⟩
theorem DayAt.mono {m m' : Nat} {w : World} {tv : Value} {T : List (List (Int × Int))} (h : DayAt m w tv T) (hm : m ≤ m') : DayAt m' w tv T := ⟨h.tours, h.nil, by have := h.len; omega, fun r hr => by have := h.rows r hr; omega⟩
def PutOut (m : Nat) (w : World) (e : Ending) (w' : World) : Prop := ∃ tv T, e = .returned (.agg #[tv]) ∧ DayAt m w' tv T ∧ Below w.heap.size w w'

theorem lies_one {w : World} {b : Nat} {v : Value} (h : w.cell? ⟨b, 0, none⟩ = some v) : Lies w b [v] := by
  intro j u hj
  match j, hj with
  | 0, hj => simp at hj; subst hj; exact h
theorem pairs_one {w : World} {b : Nat} {c q : Int} (h : Lies w b [.int .i64 c, .int .i64 q]) : Pairs w (.slice (some ⟨b, 0, none⟩) 1 1) [(c, q)] := by
  refine ⟨_, 1, rfl, by simp, by simp, fun i hi => ⟨b, 0, rfl, ?_⟩⟩
  simp at hi
  subst hi
  exact ⟨h 0 _ rfl, h 1 _ rfl⟩
/-- The day that is made, as far as it is. -/
structure PutSt (w3 wt : World) (gr go : Nat) (ov : Value) (n : Nat) (rvs : List Value) : Prop where
  own : wt.ownsRow (go + 1) 102 1 ov n rvs
  cell : Lies wt go [ov]
  free : wt.frozen? ⟨go, 0, none⟩ = false
  rcell : ∃ v, Lies wt gr [v]
  rfree : wt.frozen? ⟨gr, 0, none⟩ = false
  below : Below w3.heap.size w3 wt
  ge : w3.heap.size ≤ gr
  ne : gr < go
theorem PutSt.lt {w3 wt : World} {gr go n : Nat} {ov : Value} {rvs : List Value} (h : PutSt w3 wt gr go ov n rvs) : go < wt.heap.size := h.cell.lt
theorem PutSt.notown {w3 wt : World} {gr go n x : Nat} {ov : Value} {rvs : List Value} (h : PutSt w3 wt gr go ov n rvs) (hx : x ≤ go) : some x ≠ ov.ownBlock := fun e => by
  have := (World.ownsRow.lt h.own x e.symm).1
  omega
theorem PutSt.next {w3 wt w' : World} {gr go n : Nat} {ov : Value} {rvs : List Value} (h : PutSt w3 wt gr go ov n rvs) (hb : Below wt.heap.size wt w') : PutSt w3 w' gr go ov n rvs := by
  obtain ⟨v, hv⟩ := h.rcell
  exact ⟨World.ownsRow.kept (row := none) h.own (grownBy_below hb) (by cases ov.ownBlock <;> simp), h.cell.below hb, frozen_below hb h.lt h.free, ⟨v, hv.below hb⟩, frozen_below hb (by have := h.lt; have := h.ne; omega) h.rfree, h.below.trans (hb.mono h.below.size), h.ge, h.ne⟩
theorem PutSt.push {w3 wt w' : World} {gr go n n' g c : Nat} {ov : Value} {rvs rvs' : List Value} (h : PutSt w3 wt gr go ov n rvs) (hg : wt.grownBy w' ov.ownBlock) (h1 : w'.ownsRow (go + 1) 102 1 (.slice (some ⟨g, 0, none⟩) n' c) n' rvs') :
    PutSt w3 (w'.setCell ⟨go, 0, none⟩ (.slice (some ⟨g, 0, none⟩) n' c)) gr go (.slice (some ⟨g, 0, none⟩) n' c) n' rvs' := by
  obtain ⟨v, hv⟩ := h.rcell
  have hge := (World.ownsRow.lt h1 g rfl).1
  have hlt := h.lt
  have hne := h.ne
  have hgs := grownBy_setCell w' ⟨go, 0, none⟩ (.slice (some ⟨g, 0, none⟩) n' c)
  have hcell := h.cell.kept hg (h.notown (Nat.le_refl _))
  refine ⟨World.ownsRow.kept h1 hgs (.inr (by simp [Value.ownBlock]; omega)), ?_, by rw [World.frozen?_setCell]; exact frozen_grown hg hlt (h.notown (Nat.le_refl _)) h.free, ⟨v, (hv.kept hg (h.notown (by omega))).kept hgs (by simp; omega)⟩, by rw [World.frozen?_setCell]; exact frozen_grown hg (by omega) (h.notown (by omega)) h.rfree, ?_, h.ge, h.ne⟩
  · exact hcell.set 0 _ (by simp)
  · exact (h.below.grown hg h.below.size (fun k hk => by have := (World.ownsRow.lt h.own k hk).1; have := h.ge; omega)).setCell (p := ⟨go, 0, none⟩) (by have := h.ge; simp only []; omega) _
/-- Old rows stay. -/
def RowsAt (w3 : World) (rvs : List Value) (T : List (List (Int × Int))) (n : Nat) : Prop := ∀ i, i < n → ∃ a k c, rvs.getD i undef = .slice a k c ∧ Pairs w3 (rvs.getD i undef) (nthT T i)

theorem tours_rows {w : World} {b o n c : Nat} {T : List (List (Int × Int))} (h : Tours w (.slice (some ⟨b, o, none⟩) n c) T) :
    ∃ rvs : List Value, rvs.length = n ∧ (∀ j u, rvs[j]? = some u → w.cell? ((⟨b, o, none⟩ : Addr).add j) = some u) ∧ (∀ u ∈ rvs, u.oneCell' = true) ∧ RowsAt w rvs T n := by
  obtain ⟨a, n', c', hv, hl, _, hc⟩ := h.open
  simp only [Value.slice.injEq] at hv
  obtain ⟨rfl, rfl, rfl⟩ := hv
  have key : ∀ k, k ≤ n → ∃ rvs : List Value, rvs.length = k ∧ (∀ j u, rvs[j]? = some u → w.cell? ((⟨b, o, none⟩ : Addr).add j) = some u) ∧ (∀ u ∈ rvs, u.oneCell' = true) ∧ RowsAt w rvs T k := by
    intro k hk
    induction k with
    | zero => exact ⟨[], rfl, fun j u hj => by simp at hj, fun u hu => by simp at hu, fun i hi => absurd hi (Nat.not_lt_zero _)⟩
    | succ k ih =>
      obtain ⟨rvs, h1, h2, h3, h4⟩ := ih (by omega)
      obtain ⟨b', o', sa, sn, sc, he, g0, g1⟩ := hc k (by omega)
      simp only [Option.some.injEq, Addr.mk.injEq, and_true] at he
      obtain ⟨rfl, rfl⟩ := he
      refine ⟨rvs ++ [.slice sa sn sc], by simp [h1], fun j u hj => ?_, fun u hu => ?_, fun i hi => ?_⟩
      · by_cases hjk : j < k
        · rw [List.getElem?_append_left (by omega)] at hj
          exact h2 j u hj
        · rw [List.getElem?_append_right (by omega)] at hj
          have hj0 : j - rvs.length = 0 := by
            rcases Nat.eq_zero_or_pos (j - rvs.length) with e | e
            · exact e
            · rw [List.getElem?_eq_none (by simp; omega)] at hj; cases hj
          rw [hj0] at hj
          simp at hj
          subst hj
          have hjk2 : j = k := by omega
          subst hjk2
          have ha : (⟨b, o, none⟩ : Addr).add j = ⟨b, o + j, none⟩ := by unfold Addr.add; split <;> simp_all
          rw [ha]; exact g0
      · rcases List.mem_append.1 hu with hu | hu
        · exact h3 u hu
        · simp at hu; subst hu; rfl
      · by_cases hik : i < k
        · have e : (rvs ++ [Value.slice sa sn sc]).getD i undef = rvs.getD i undef := by simp [List.getD, List.getElem?_append, h1, hik]
          rw [e]; exact h4 i hik
        · have hik2 : i = k := by omega
          subst hik2
          have e : (rvs ++ [Value.slice sa sn sc]).getD i undef = .slice sa sn sc := by simp [List.getD, ← h1]
          rw [e]; exact ⟨_, _, _, rfl, g1⟩
  exact key n (Nat.le_refl _)
theorem PutSt.reset {w3 wt : World} {gr go : Nat} (h : PutSt w3 wt gr go (.slice none 0 0) 0 []) : PutSt w3 (wt.setCell ⟨go, 0, none⟩ (.slice none 0 0)) gr go (.slice none 0 0) 0 [] := by
  obtain ⟨v, hv⟩ := h.rcell
  have hne := h.ne
  have hgs := grownBy_setCell wt ⟨go, 0, none⟩ (.slice none 0 0)
  exact ⟨World.ownsRow_nil _ _ _ _, h.cell.set 0 _ (by simp), by rw [World.frozen?_setCell]; exact h.free, ⟨v, hv.kept hgs (by simp; omega)⟩, by rw [World.frozen?_setCell]; exact h.rfree, h.below.setCell (p := ⟨go, 0, none⟩) (by have := h.ge; simp only []; omega) _, h.ge, h.ne⟩

theorem owns_freeT {w : World} {B : Nat} {E : TypeId} {sz n g c : Nat} {xs : List Value} (h : w.ownsRow B E sz (.slice (some ⟨g, 0, none⟩) n c) n xs) (j : Nat) : w.frozen? ⟨g, j, none⟩ = false := by
  rcases h.2 with ⟨h0, _⟩ | ⟨g', cap, cur, hv, hb, hg, _⟩
  · simp at h0
  · simp only [Value.slice.injEq, Option.some.injEq, Addr.mk.injEq, and_true] at hv
    obtain ⟨rfl, _⟩ := hv
    simp [World.frozen?, hg]
theorem PutSt.at_ {w3 wt : World} {gr go n g c : Nat} {rvs : List Value} (h : PutSt w3 wt gr go (.slice (some ⟨g, 0, none⟩) n c) n rvs) (hl : rvs.length = n) {j : Nat} (hj : j < n) : wt.cell? ⟨g, j, none⟩ = some (rvs.getD j undef) ∧ wt.frozen? ⟨g, j, none⟩ = false := by
  obtain ⟨g', hg', hc⟩ := owns_cell h.own j (rvs.getD j undef) (by simp [List.getD, show j < rvs.length by omega])
  simp only [Value.ownBlock, Option.some.injEq] at hg'
  subst hg'
  exact ⟨hc, owns_freeT h.own j⟩
theorem PutSt.setRow {w3 wt : World} {gr go n g c : Nat} {rvs : List Value} (h : PutSt w3 wt gr go (.slice (some ⟨g, 0, none⟩) n c) n rvs) (j : Nat) (u : Value) : PutSt w3 (wt.setCell ⟨g, j, none⟩ u) gr go (.slice (some ⟨g, 0, none⟩) n c) n (rvs.set j u) := by
  obtain ⟨v, hv⟩ := h.rcell
  have hge := (World.ownsRow.lt h.own g rfl).1
  have hne := h.ne
  obtain ⟨h1, hgs⟩ := World.ownsRow.stored h.own j u
  exact ⟨h1, h.cell.kept hgs (by simp; omega), by rw [World.frozen?_setCell]; exact h.free, ⟨v, hv.kept hgs (by simp; omega)⟩, by rw [World.frozen?_setCell]; exact h.rfree, h.below.setCell (p := ⟨g, j, none⟩) (by have := h.ge; simp only []; omega) _, h.ge, h.ne⟩
theorem PutSt.final {w3 wt : World} {gr go n g c : Nat} {rvs : List Value} (h : PutSt w3 wt gr go (.slice (some ⟨g, 0, none⟩) n c) n rvs) :
    (wt.setCell ⟨gr, 0, none⟩ (.slice (some ⟨g, 0, none⟩) n c)).cell? ⟨gr, 0, none⟩ = some (.slice (some ⟨g, 0, none⟩) n c) ∧
    (wt.setCell ⟨gr, 0, none⟩ (.slice (some ⟨g, 0, none⟩) n c)).ownsRow (go + 1) 102 1 (.slice (some ⟨g, 0, none⟩) n c) n rvs ∧ Below w3.heap.size w3 (wt.setCell ⟨gr, 0, none⟩ (.slice (some ⟨g, 0, none⟩) n c)) := by
  obtain ⟨v, hv⟩ := h.rcell
  have hge := (World.ownsRow.lt h.own g rfl).1
  have hne := h.ne
  have hgs := grownBy_setCell wt ⟨gr, 0, none⟩ (.slice (some ⟨g, 0, none⟩) n c)
  exact ⟨(hv.set 0 _ (by simp)) 0 _ (by simp), World.ownsRow.kept h.own hgs (.inr (by simp [Value.ownBlock]; omega)), h.below.setCell (p := ⟨gr, 0, none⟩) h.ge _⟩

theorem pairs_flat {w : World} {b o n c : Nat} {xs : List (Int × Int)} (h : Pairs w (.slice (some ⟨b, o, none⟩) n c) xs) : xs.length = n ∧ ∀ j u, (flatP xs)[j]? = some u → w.cell? ((⟨b, o, none⟩ : Addr).add j) = some u := by
  obtain ⟨a, n', c', hv, hl, _, hc⟩ := h.open
  simp only [Value.slice.injEq] at hv
  obtain ⟨rfl, rfl, rfl⟩ := hv
  refine ⟨hl, fun j u hj => ?_⟩
  have ha : (⟨b, o, none⟩ : Addr).add j = ⟨b, o + j, none⟩ := by unfold Addr.add; split <;> simp_all
  rw [ha]
  have hjl : j < (flatP xs).length := (List.getElem?_eq_some_iff.1 hj).1
  rw [flatP_len] at hjl
  obtain ⟨e1, e2⟩ := flatP_at xs (j / 2) (by omega)
  obtain ⟨b', o', he, g0, g1⟩ := hc (j / 2) (by omega)
  simp only [Option.some.injEq, Addr.mk.injEq, and_true] at he
  obtain ⟨rfl, rfl⟩ := he
  rcases Nat.mod_two_eq_zero_or_one j with h0 | h0
  · have e : j = j / 2 * 2 := by omega
    rw [← e] at e1 g0
    rw [e1] at hj
    cases hj
    exact g0
  · have e : j = j / 2 * 2 + 1 := by omega
    rw [← e] at e2
    rw [e2] at hj
    cases hj
    rw [show o + j = o + j / 2 * 2 + 1 by omega]
    exact g1
theorem flatP_one (xs : List (Int × Int)) : ∀ u ∈ flatP xs, u.oneCell' = true := by
  intro u hu
  unfold flatP at hu
  obtain ⟨p, _, hp⟩ := List.mem_flatMap.1 hu
  simp at hp
  rcases hp with rfl | rfl <;> rfl

theorem tour_copy {gt g8 c8 rk : Nat} {w6 W w8 : World} {v0 : Value} {r : List (Int × Int)} (hb : Below gt w6 W) (hW : gt < W.heap.size) (t0 : W.cell? ⟨gt, 0, none⟩ = some v0) (t1 : W.frozen? ⟨gt, 0, none⟩ = false) (hg : W.grownBy w8 none)
    (hrow : w8.ownsRow (gt + 1) 78 2 (.slice (some ⟨g8, 0, none⟩) rk c8) rk (flatP r)) (hrk : r.length = rk) :
    w8.cell? ⟨gt, 0, none⟩ = some v0 ∧ w8.frozen? ⟨gt, 0, none⟩ = false ∧
    ((w8.setCell ⟨gt, 0, none⟩ (.slice (some ⟨g8, 0, none⟩) rk c8)).cell? ⟨gt, 0, none⟩ = some (.slice (some ⟨g8, 0, none⟩) rk c8) ∧ (w8.setCell ⟨gt, 0, none⟩ (.slice (some ⟨g8, 0, none⟩) rk c8)).frozen? ⟨gt, 0, none⟩ = false ∧
      OwnP2 78 (w8.setCell ⟨gt, 0, none⟩ (.slice (some ⟨g8, 0, none⟩) rk c8)) (gt + 1) (.slice (some ⟨g8, 0, none⟩) rk c8) r ∧ Below gt w6 (w8.setCell ⟨gt, 0, none⟩ (.slice (some ⟨g8, 0, none⟩) rk c8))) := by
  have q0 := hg.cell t0 (by simp)
  have q1 := frozen_grown hg hW (by simp) t1
  subst hrk
  have hge := (World.ownsRow.lt hrow g8 rfl).1
  refine ⟨q0, q1, ((lies_one q0).set 0 _ (by simp)) 0 _ (by simp), by rw [World.frozen?_setCell]; exact q1, ?_, ?_⟩
  · exact World.ownsRow.kept hrow (grownBy_setCell w8 ⟨gt, 0, none⟩ _) (.inr (by simp [Value.ownBlock]; omega))
  · exact (hb.grown hg (Nat.le_of_lt hW) (fun k hk => by cases hk)).setCell (p := ⟨gt, 0, none⟩) (Nat.le_refl _) _

theorem PutSt.kept {w3 wt w' : World} {gr go n x : Nat} {ov : Value} {rvs : List Value} (h : PutSt w3 wt gr go ov n rvs) (hg : wt.grownBy w' (some x)) (hx : go < x) (hne : ov.ownBlock ≠ some x) : PutSt w3 w' gr go ov n rvs := by
  obtain ⟨v, hv⟩ := h.rcell
  have h1 := h.ne
  have h2 := h.lt
  have h3 := h.ge
  exact ⟨World.ownsRow.kept h.own hg (.inr hne), h.cell.kept hg (by simp; omega), frozen_grown hg h.lt (by simp; omega) h.free, ⟨v, hv.kept hg (by simp; omega)⟩, frozen_grown hg (by omega) (by simp; omega) h.rfree, h.below.grown hg h.below.size (fun k hk => by cases hk; omega), h.ge, h.ne⟩
theorem dayAt_set {w3 wt : World} {gr go n g c m p g9 c9 : Nat} {rvs : List Value} {T : List (List (Int × Int))} {r : List (Int × Int)} {s : Int × Int} (h : PutSt w3 wt gr go (.slice (some ⟨g, 0, none⟩) n c) n (rvs.set p (.slice (some ⟨g9, 0, none⟩) (r.length + 1) c9))) (hl : rvs.length = n) (hT : T.length = n) (hn : n ≤ 900) (hp : p < n) (hm : n ≤ m) (hr : r = nthT T p) (hrw : RowsAt w3 rvs T n) (hTr : ∀ r ∈ T, 0 < r.length ∧ r.length ≤ m)
    (hrow : OwnP2 78 wt (go + 1) (.slice (some ⟨g9, 0, none⟩) (r.length + 1) c9) (r ++ [s])) :
    (wt.setCell ⟨gr, 0, none⟩ (.slice (some ⟨g, 0, none⟩) n c)).cell? ⟨gr, 0, none⟩ = some (.slice (some ⟨g, 0, none⟩) n c) ∧ DayAt (m + 1) (wt.setCell ⟨gr, 0, none⟩ (.slice (some ⟨g, 0, none⟩) n c)) (.slice (some ⟨g, 0, none⟩) n c) (T.set p (r ++ [s])) ∧ Below w3.heap.size w3 (wt.setCell ⟨gr, 0, none⟩ (.slice (some ⟨g, 0, none⟩) n c)) := by
  obtain ⟨q0, q1, q2⟩ := h.final
  have hne := h.ne
  have hge9 := (hrow.lt g9 rfl).1
  have hrow2 := hrow.kept (grownBy_setCell wt ⟨gr, 0, none⟩ (.slice (some ⟨g, 0, none⟩) n c)) (.inr (by simp [Value.ownBlock]; omega))
  have hpl : p < T.length := by omega
  have hrT := hTr r (by rw [hr]; exact nthT_in hpl)
  refine ⟨q0, ⟨tours_of q1 (by simp [hT]) (by simp [hl]) (by omega) (fun i hi => ?_), fun e => ?_, by simp; omega, fun x hx => ?_⟩, q2⟩
  · by_cases e : i = p
    · subst e
      rw [nthT_set_here (by omega), getD_set_here (by omega)]
      exact hrow2.pairs
    · rw [nthT_set_other e, getD_set_other e]
      obtain ⟨_, _, _, _, hp⟩ := hrw i hi
      exact hp.below q2
  · have : (T.set p (r ++ [s])).length = 0 := by rw [e]; rfl
    rw [List.length_set] at this; omega
  · rcases List.mem_or_eq_of_mem_set hx with hx | rfl
    · have := hTr x hx; omega
    · simp; omega
theorem dayAt_new {w3 wt : World} {gr go n g c m b : Nat} {rvs : List Value} {T : List (List (Int × Int))} {s : Int × Int} (h : PutSt w3 wt gr go (.slice (some ⟨g, 0, none⟩) (n + 1) c) (n + 1) (rvs ++ [.slice (some ⟨b, 0, none⟩) 1 1])) (hl : rvs.length = n) (hT : T.length = n) (hn : n ≤ 900) (hm : n ≤ m) (hrw : RowsAt w3 rvs T n) (hTr : ∀ r ∈ T, 0 < r.length ∧ r.length ≤ m)
    (hb : go < b) (hrow : Lies wt b [.int .i64 s.1, .int .i64 s.2]) :
    (wt.setCell ⟨gr, 0, none⟩ (.slice (some ⟨g, 0, none⟩) (n + 1) c)).cell? ⟨gr, 0, none⟩ = some (.slice (some ⟨g, 0, none⟩) (n + 1) c) ∧ DayAt (m + 1) (wt.setCell ⟨gr, 0, none⟩ (.slice (some ⟨g, 0, none⟩) (n + 1) c)) (.slice (some ⟨g, 0, none⟩) (n + 1) c) (T ++ [[s]]) ∧ Below w3.heap.size w3 (wt.setCell ⟨gr, 0, none⟩ (.slice (some ⟨g, 0, none⟩) (n + 1) c)) := by
  obtain ⟨q0, q1, q2⟩ := h.final
  have hne := h.ne
  have hrow2 := hrow.kept (grownBy_setCell wt ⟨gr, 0, none⟩ (.slice (some ⟨g, 0, none⟩) (n + 1) c)) (by simp; omega)
  refine ⟨q0, ⟨tours_of q1 (by simp [hT]) (by simp [hl]) (by omega) (fun i hi => ?_), fun e => ?_, by simp; omega, fun x hx => ?_⟩, q2⟩
  · by_cases e : i < n
    · rw [nthT_append_left (by omega), show (rvs ++ [Value.slice (some ⟨b, 0, none⟩) 1 1]).getD i undef = rvs.getD i undef by simp [List.getD, List.getElem?_append, hl, e]]
      obtain ⟨_, _, _, _, hp⟩ := hrw i e
      exact hp.below q2
    · have hin : i = T.length := by omega
      subst hin
      rw [nthT_append_here, show (rvs ++ [Value.slice (some ⟨b, 0, none⟩) 1 1]).getD T.length undef = .slice (some ⟨b, 0, none⟩) 1 1 by simp [List.getD, show rvs.length = T.length by omega]]
      exact pairs_one hrow2
  · simp at e
  · rcases List.mem_append.1 hx with hx | hx
    · have := hTr x hx; omega
    · simp at hx; subst hx; simp

set_option maxRecDepth 100000 in
set_option maxHeartbeats 3200000 in
theorem putT_is (i0 i1 cap i3 : Int) (cv dv tv : Value) (L : List Cu) (D : List (List Int)) (T : List (List (Int × Int))) (c q : Int) (join : Bool) (m : Nat) (w : World) (hC : Custs w cv L) (hG : Grid w dv D) (hD : ArcBd D) (hL : L.length ≤ 1000) (hT : DayAt m w tv T) (hm : m ≤ 900) :
    Calls Tryz.prog 41 #[.agg #[.int .i64 i0, .int .i64 i1, .int .i64 cap, .int .i64 i3, cv, dv], .agg #[tv], .agg #[.int .i64 c, .int .i64 q], .bool join] w (PutOut (m + 1) w) := by
  obtain ⟨w1, ew1, hb1, hs1, hx⟩ := box_inst w (.int .i64 i0) (.int .i64 i1) (.int .i64 cap) (.int .i64 i3) cv dv
  obtain ⟨w2, ew2, hb2, hs2, p0⟩ := box_day w1 tv
  obtain ⟨w3, ew3, hb3, hs3, s0, s1⟩ := box_stop w2 c q
  obtain ⟨w4, ew4, hb4, hs4, r0, r1⟩ := box_dayF w3 (.slice none 0 0)
  obtain ⟨w5, ew5, hb5, hs5, o0, o1⟩ := box_dayF w4 (.slice none 0 0)
  have hb13 := bel2 hb1 (bel2 hb2 hb3)
  have hb35 := bel2 hb4 hb5
  have hx3 := (hx.below hb2).below hb3
  have hx5 := hx3.below hb35
  have p0 := cell_below (bel2 hb3 hb35) p0
  have s03 := s0
  have s13 := s1
  have s0 := cell_below hb35 s0
  have s1 := cell_below hb35 s1
  have r0 := cell_below hb5 r0
  have r1 := frozen_below hb5 (by omega) r1
  rw [hs1] at p0
  rw [hs2, hs1] at s0 s1 s03 s13
  rw [hs3, hs2, hs1] at r0 r1
  rw [hs4, hs3, hs2, hs1] at o0 o1
  obtain ⟨ca, N, cc, rfl, _, _, _⟩ := hC.open
  obtain ⟨da, dn, dc, rfl, _, _, _⟩ := hG.open
  obtain ⟨ta, n, tc, rfl, hn, _, htc⟩ := (hT.tours.below hb13).open
  obtain ⟨c0, c1, c2, c3, c4, c5⟩ := hx5
  have h3 : w3.heap.size = w.heap.size + 1 + 1 + 1 := by omega
  have h5 : w5.heap.size = w.heap.size + 1 + 1 + 1 + 1 + 1 := by omega
  have hst0 : PutSt w3 w5 (w.heap.size + 1 + 1 + 1) (w.heap.size + 1 + 1 + 1 + 1) (.slice none 0 0) 0 [] :=
    ⟨World.ownsRow_nil _ _ _ _, lies_one o0, o1, ⟨_, lies_one r0⟩, r1, hb35, by omega, by omega⟩
  have hrows : ∀ i, i < n → ∃ a k c, w3.cell? ⟨(match ta with | some x => x.block | none => 0), (match ta with | some x => x.off | none => 0) + i, none⟩ = some (.slice a k c) ∧ Pairs w3 (.slice a k c) (nthT T i) := fun i hi => by
    obtain ⟨b, o, sa, sn, sc, rfl, h1, h2⟩ := htc i hi
    exact ⟨sa, sn, sc, h1, h2⟩
  have HM := Lib.hid (fun (W : World) (sv : Value) (r : List (Int × Int)) (h : Below w3.heap.size w3 W) (hp : Pairs W sv r) (hr : r.length ≤ 1000) => mayT_is i0 i1 cap i3 (.slice ca N cc) (.slice da dn dc) sv L D r W (hC.below (bel2 hb13 h)) (hG.below (bel2 hb13 h)) hD hL hp hr)
  have HT := Lib.hid hT
  have Hn := Lib.hid hn
  have Htc := Lib.hid htc
  have Hst0 := Lib.hid hst0
  have Hx3 := Lib.hid hx3
  have Hb13 := Lib.hid hb13
  have Hew1 := Lib.hid ew1
  have Hew2 := Lib.hid ew2
  have Hew3 := Lib.hid ew3
  have Hew4 := Lib.hid ew4
  have Hew5 := Lib.hid ew5
  have Hp0 := Lib.hid p0
  have Hs0 := Lib.hid s03
  have Hs1 := Lib.hid s13
  clear s03 s13
  have hn9 : n ≤ 900 := by have := hT.len; omega
  obtain ⟨i9, hi9, hz9, hsz9, hby9⟩ := info_parts info_tour
  obtain ⟨i8, hi8, hz8, hsz8, hby8⟩ := info_parts info_stop
  have Hi8 := Lib.hid hi8
  have Hz8 := Lib.hid hz8
  have Hsz8 := Lib.hid hsz8
  have Hby8 := Lib.hid hby8
  clear hi8 hz8 hsz8 hby8
  have Hi9 := Lib.hid hi9
  have Hz9 := Lib.hid hz9
  have Hsz9 := Lib.hid hsz9
  have Hby9 := Lib.hid hby9
  go_enter Tryz.func41, Tryz.ntmps41
  go_upto_region 2 with (fail)
  clear ew1 ew2 ew3 ew4 ew5 hb1 hb2 hb3 hb4 hb5 hs1 hs2 hs3 hs4 hs5 hx hx3 hb35 hC hG hD hT hn htc hst0 hrows hi9 hz9 hsz9 hby9
  generalize hgp : w.heap.size + 1 = gp at *
  generalize hgs : gp + 1 = gs at *
  generalize hgr : gs + 1 = gr at *
  generalize hgo : gr + 1 = go at *
  have Hgp := Lib.hid hgp
  have Hgs := Lib.hid hgs
  have Hgr := Lib.hid hgr
  have Hgo := Lib.hid hgo
  clear hgp hgs hgr hgo
  go_cut [] (fun wx => ∃ oa oc rvs, PutSt w3 wx gr go (.slice oa n oc) n rvs ∧ rvs.length = n ∧ RowsAt w3 rvs T n)
  case first =>
    by_cases h0 : n = 0
    · have Htn : Hid (T = []) := Lib.hid (List.length_eq_zero_iff.1 (by rw [Hn.out, h0]))
      subst h0
      have hte := HT.out.nil Htn.out
      simp only [Value.slice.injEq] at hte
      obtain ⟨rfl, _, rfl⟩ := hte
      go_wp2_with (at_builtin; refine wpList_append_own_none rfl _ _ 79 rfl (go + 1) 102 i9 1 Tryz.underlying79 Hi9.out (.slice none 0 0) 0 [] rfl (World.ownsRow_nil _ _ _ _) rfl ?_)
      go_wp2_with fail
      go_meet
      exact ⟨none, 0, [], Hst0.out.reset, rfl, fun i hi => absurd hi (Nat.not_lt_zero _)⟩
    · have hn0 : 0 < n := Nat.pos_of_ne_zero h0
      obtain ⟨b, o, _, _, _, rfl, _, _⟩ := Htc.out 0 hn0
      obtain ⟨rvs, hl, hnews, hone, hrw⟩ := tours_rows (HT.out.tours.below Hb13.out)
      have Hl := Lib.hid hl
      have Hnews := Lib.hid (fun j u hj => (show w5.cell? ((⟨b, o, none⟩ : Addr).add j) = some u from (cell_below Hst0.out.below (hnews j u hj))))
      have Hone := Lib.hid hone
      have Hrw := Lib.hid hrw
      clear hl hnews hone hrw h0
      go_wp2_with (at_builtin; go_loud (refine wpList_append_lies w5 rfl _ _ 79 rfl (go + 1) 102 i9 (.agg #[.slice none 0 0]) 1 24 Tryz.underlying79 Hi9.out Hz9.out Hsz9.out Hby9.out rfl (by decide) (.slice none 0 0) 0 [] rfl (World.ownsRow_nil _ _ _ _) ⟨b, o, none⟩ n tc rvs rfl (by rw [Hl.out]; omega) Hnews.out Hone.out hn0 (by simp only [maxLen]; omega) (by omega) (by omega) w5.heap.size rfl ?_))
      intro g6 cap6 w6 hrow6 hg6 hat6 hlt6
      have Hst6 := Lib.hid (Hst0.out.push hg6 hrow6)
      have t0 := hg6.cell o0 (by simp [Value.ownBlock])
      have t1 := frozen_grown hg6 (by omega) (by simp [Value.ownBlock]) o1
      clear hrow6 hg6 hat6 hlt6
      go_wp2_with fail
      go_meet
      exact ⟨_, _, rvs, Hst6.out, Hl.out, Hrw.out⟩
  case rest =>
  obtain ⟨oa, oc, rvs, hst, hl, hrw⟩ := hcut
  obtain ⟨w6, rfl⟩ : ∃ w6 : World, w6 = wc := ⟨_, rfl⟩
  have Hst := Lib.hid hst
  have Hl := Lib.hid hl
  have Hrw := Lib.hid hrw
  have lt6 : go < w6.heap.size := hst.lt
  clear c0 c1 c2 c3 c4 c5 p0 s0 s1 r0 r1 o0 o1
  obtain ⟨c0, c1, c2, c3, c4, c5⟩ := Hx3.out.below hst.below
  have s0 := cell_below hst.below Hs0.out
  have s1 := cell_below hst.below Hs1.out
  have o0 := hst.cell 0 _ rfl
  have o1 := hst.free
  clear hst hl hrw
  go_upto_region 4 with fail
  go_cut [25] (fun s25 wx => ∃ b : Bool, s25 = .bool b ∧ (b = true → 0 < n) ∧ w6 = wx)
  case first =>
    cases join with
    | false =>
      go_wp2_with fail
      go_meet
      exact ⟨false, rfl, (fun h => by cases h), rfl⟩
    | true =>
      by_cases h0 : n = 0
      · have hq : decide ((0 : Int) < (n : Int)) = false := decide_eq_false (by omega)
        have hq2 : ¬ 0 < n := by omega
        go_wp2_with fail
        go_meet
        exact ⟨false, (by first | rfl | simp [hq2]), (fun h => by cases h), rfl⟩
      · have hn0 : 0 < n := Nat.pos_of_ne_zero h0
        have hq : (0 : Int) < (n : Int) := by omega
        go_wp2_with fail
        go_meet
        exact ⟨true, (by first | rfl | simp [hn0]), fun _ => hn0, rfl⟩
  case rest =>
  obtain ⟨bj, rfl, hbj, rfl⟩ := hcut
  obtain ⟨w6, rfl⟩ : ∃ wq : World, wq = w6 := ⟨_, rfl⟩
  have Hbj := Lib.hid hbj
  clear hbj
  go_upto_if 25 with fail
  go_cut [11] (fun s11 wx => ∃ u, u = s11 ∧ PutSt w3 wx gr go (.slice oa n oc) n rvs)
  case first =>
    cases bj with
    | false =>
      go_wp2_with fail
      go_meet
      exact ⟨_, rfl, Hst.out⟩
    | true =>
        have hn0 : 0 < n := Hbj.out rfl
        have hq : (0 : Int) < (n : Int) := by omega
        obtain ⟨w7, ew7, hb7, hs7, t0, t1⟩ := box_tourF w6 (.slice none 0 0)
        obtain ⟨g, cg, hov, _, _, hgB, hgl⟩ : ∃ g cap, Value.slice oa n oc = .slice (some ⟨g, 0, none⟩) n cap ∧ n ≤ cap ∧ cap ≤ 9223372036854775807 ∧ go + 1 ≤ g ∧ g < w6.heap.size := by
          rcases owns_form Hst.out.own with ⟨_, h0⟩ | h
          · omega
          · exact h
        simp only [Value.slice.injEq] at hov
        obtain ⟨rfl, _, rfl⟩ := hov
        obtain ⟨p, hnp⟩ : ∃ p, n = p + 1 := ⟨n - 1, by omega⟩
        have hpn : p < n := by omega
        obtain ⟨a0, f1⟩ := Hst.out.at_ Hl.out hpn
        obtain ⟨ra, rk, rc, hre, hpr⟩ := Hrw.out p hpn
        rw [hre] at a0 hpr
        have hrT := HT.out.rows (nthT T p) (nthT_in (by rw [Hn.out]; exact hpn))
        obtain ⟨_, _, _, he, hrk, _, hrc⟩ := hpr.open
        simp only [Value.slice.injEq] at he
        obtain ⟨rfl, rfl, rfl⟩ := he
        have hrk0 : 0 < rk := by omega
        obtain ⟨b, o, rfl, _, _⟩ := hrc 0 hrk0
        have hfl := (pairs_flat hpr).2
        have Hst7 := Lib.hid (Hst.out.next hb7)
        have hrk9 : rk ≤ 900 := by omega
        obtain ⟨r, hr⟩ : ∃ r, r = nthT T p := ⟨_, rfl⟩
        rw [← hr] at hrk hfl
        have Hrk := Lib.hid hrk
        have Hrr := Lib.hid hr
        have Hfl := Lib.hid (fun j u hj => (show w7.cell? ((⟨b, o, none⟩ : Addr).add j) = some u from cell_below Hst7.out.below (hfl j u hj)))
        have a7 := cell_below hb7 a0
        have o7 := cell_below hb7 o0
        have Hew7 := Lib.hid ew7
        have Hb7 := Lib.hid hb7
        have Hnp := Lib.hid hnp
        have Hrows := Lib.hid hrT
        have hp0 : (0 : Int) ≤ (p : Int) := by omega
        have hp1 : (p : Int) < (n : Int) := by omega
        have Hwp : Hid (IntKind.i64.wrap ((n : Int) - 1) = (p : Int) ∧ wrap64 ((n : Int) - 1) = (p : Int)) := Lib.hid ⟨by rw [IntWalk.i64_in _ (by omega)]; omega, by rw [wrap_id (by omega) (by omega)]; omega⟩
        have hgt : w6.heap.size < w7.heap.size := by omega
        have Hs7 := Lib.hid hs7
        clear hre hpr hrT hrk hrc hfl hr ew7 hb7 hnp hs7 a0
        go_upto_region 6 with fail
        rw [Hew7.out]
        generalize hgte : w6.heap.size = gt at *
        have Hgte := Lib.hid hgte
        clear hgte
        go_cut [] (fun wx => ∃ g8 c8, wx.cell? ⟨gt, 0, none⟩ = some (.slice (some ⟨g8, 0, none⟩) rk c8) ∧ wx.frozen? ⟨gt, 0, none⟩ = false ∧ OwnP2 78 wx (gt + 1) (.slice (some ⟨g8, 0, none⟩) rk c8) r ∧ Below gt w6 wx)
        case first =>
          obtain ⟨hw1, _⟩ := Hwp.out
          have hgt1 : gt + 1 ≤ w7.heap.size := hgt
          have hgt2 : gt + 1 ≤ w7.drew.heap.size := hgt
          go_region_law (first
            | (refine step_append_lies _ (by rfl) (.tmp 27) (.tmp 34) 100 (by rfl) (gt + 1) 78 i8 (.agg #[.int .i64 0, .int .i64 0]) 2 16 Tryz.underlying100 Hi8.out Hz8.out Hsz8.out Hby8.out rfl (by decide) (.slice none 0 0) 0 [] (by rfl) (World.ownsRow_nil _ _ _ _) ⟨b, o, none⟩ rk rc (flatP r) (by rfl) (by rw [flatP_len, Hrk.out, Nat.mul_comm]) (by first | exact Hfl.out | exact fun j u hj => cell_below (belDrew _) (Hfl.out j u hj)) (flatP_one r) hrk0 (by simp only [maxLen]; omega) (by omega) (by first | exact hgt1 | exact hgt2) _ rfl ?_; intro g8 cap8 w8 hrow8 hg8 hat8 hlt8; (first | have hF := tour_copy (r := r) Hb7.out hgt t0 t1 hg8 (by simpa using hrow8) Hrk.out | have hF := tour_copy (r := r) Hb7.out.drew hgt (cell_below (belDrew _) t0) (frozen_below (belDrew _) hgt t1) hg8 (by simpa using hrow8) Hrk.out); obtain ⟨q0, q1, hF⟩ := hF; have HF := Lib.hid hF; clear hF hrow8 hg8 hat8 hlt8))
          all_goals
            go_wp2_with fail
            go_meet
            exact ⟨_, _, HF.out⟩
        case rest =>
          obtain ⟨g8, c8, y0, y1, hrow, hbc⟩ := hcut
          obtain ⟨w8, rfl⟩ : ∃ w8 : World, w8 = wc := ⟨_, rfl⟩
          have Hrow := Lib.hid hrow
          have hb68 : Below w6.heap.size w6 w8 := by rw [Hgte.out]; exact hbc
          have Hst8 := Lib.hid (Hst.out.next hb68)
          have s08 := cell_below Hst8.out.below Hs0.out
          have s18 := cell_below Hst8.out.below Hs1.out
          have lt8 : gt < w8.heap.size := World.block_lt_of_cell? w8 _ y0
          have Hrl : Hid (r.length + 1 ≤ 1000000000000) := Lib.hid (by have := Hrk.out; omega)
          have Hrk2 : Hid (rk = r.length) := Lib.hid Hrk.out.symm
          clear hrow hbc hb68 t0 t1 o0 o1 a7 o7 f1 c0 c1 c2 c3 c4 c5 s0 s1
          go_wp2_with (at_builtin; go_loud (refine wpList_pushP rfl _ _ 100 78 (.agg #[.int .i64 0, .int .i64 0]) Tryz.underlying100 info_stop rfl rfl w8 (gt + 1) (.slice (some ⟨g8, 0, none⟩) rk c8) r c q rfl rfl Hrow.out Hrl.out lt8 ?_))
          intro g9 c9 w9 hrow9 hg9 hb9 hge9 hlt9
          have hg8 := (Hrow.out.lt g8 rfl).1
          have y0 := cell_lt hb9 (Nat.lt_succ_self gt) y0
          have y1 := frozen_lt hb9 (Nat.lt_succ_self gt) y1
          have Hrow9 := Lib.hid hrow9
          have hlt9' : gt < w9.heap.size := by omega
          have Hst9 := Lib.hid (Hst8.out.kept (x := g8) hg9 (by omega) (by simp [Value.ownBlock]; omega))
          clear hrow9 hg9 hb9 hg8 s08 s18
          go_upto_region 8 with fail
          obtain ⟨w10, ew10⟩ : ∃ wx, w9.setCell ⟨gt, 0, none⟩ (.slice (some ⟨g9, 0, none⟩) (r.length + 1) c9) = wx := ⟨_, rfl⟩
          have hst10 : PutSt w3 w10 gr go (.slice (some ⟨g, 0, none⟩) n oc) n rvs := by rw [← ew10]; exact Hst9.out.kept (grownBy_setCell w9 ⟨gt, 0, none⟩ _) (by simp only []; omega) (by simp [Value.ownBlock]; omega)
          have hrow10 : OwnP2 78 w10 (gt + 1) (.slice (some ⟨g9, 0, none⟩) (r.length + 1) c9) (r ++ [(c, q)]) := by rw [← ew10]; exact Hrow9.out.kept (grownBy_setCell w9 ⟨gt, 0, none⟩ _) (Hrow9.out.not (Nat.lt_succ_self gt))
          have t10 : w10.cell? ⟨gt, 0, none⟩ = some (.slice (some ⟨g9, 0, none⟩) (r.length + 1) c9) := by rw [← ew10]; exact ((lies_one y0).set 0 _ (by simp)) 0 _ (by simp)
          rw [ew10]
          have Hst10 := Lib.hid hst10
          have Hrow10 := Lib.hid hrow10
          have HM10 := Lib.hid (HM.out w10 (.slice (some ⟨g9, 0, none⟩) (r.length + 1) c9) (r ++ [(c, q)]) hst10.below hrow10.pairs (by rw [List.length_append, Hrk.out]; simp; omega))
          obtain ⟨c0, c1, c2, c3, c4, c5⟩ := Hx3.out.below hst10.below
          have Ht10 := Lib.hid t10
          clear ew10 hst10 hrow10 y0 y1 hlt9 hlt9'
          go_wp2_with fail
          refine HM10.out.mono ?_
          rintro e w11 ⟨v, rfl, _, hb11⟩
          have Hst11 := Lib.hid (Hst10.out.next hb11)
          have Hrow11 := Lib.hid (Hrow10.out.below hb11)
          have t11 := cell_below hb11 Ht10.out
          clear hb11 c0 c1 c2 c3 c4 c5 t10
          by_cases hv : v = 0
          · subst hv
            have hq0 : ((0 : Int) == 0) = true := by simp
            obtain ⟨a11, f11⟩ := Hst11.out.at_ Hl.out hpn
            have hpn1 : p = n - 1 := by have := Hnp.out; omega
            subst hpn1
            have o0 := Hst11.out.cell 0 _ rfl
            have o1 := Hst11.out.free
            have hw2 := Hwp.out.2
            go_upto_region 10 with fail
            obtain ⟨w12, ew12⟩ : ∃ wx, w11.setCell ⟨g, n - 1, none⟩ (.slice (some ⟨g9, 0, none⟩) (r.length + 1) c9) = wx := ⟨_, rfl⟩
            have hst12 : PutSt w3 w12 gr go (.slice (some ⟨g, 0, none⟩) n oc) n (rvs.set (n - 1) (.slice (some ⟨g9, 0, none⟩) (r.length + 1) c9)) := by rw [← ew12]; exact Hst11.out.setRow (n - 1) _
            have hrow12 : OwnP2 78 w12 (gt + 1) (.slice (some ⟨g9, 0, none⟩) (r.length + 1) c9) (r ++ [(c, q)]) := by rw [← ew12]; exact Hrow11.out.kept (grownBy_setCell w11 ⟨g, n - 1, none⟩ _) (Hrow11.out.not (show g < gt + 1 by omega))
            rw [ew12]
            have HF := Lib.hid (dayAt_set (m := m) (s := (c, q)) hst12 Hl.out Hn.out hn9 hpn (by rw [← Hn.out]; exact HT.out.len) Hrr.out Hrw.out HT.out.rows (hrow12.mono (by omega)))
            have o0 := hst12.cell 0 _ rfl
            obtain ⟨rv, hrv⟩ := hst12.rcell
            have r0 := hrv 0 _ rfl
            have r1 := hst12.rfree
            clear ew12 hst12 hrow12 a11 f11 hw2 hrv t11
            go_wp2_with fail
            obtain ⟨q0, q1, q2⟩ := HF.out
            refine bodyPost_ret (v := .agg #[.slice (some ⟨g, 0, none⟩) n oc]) (by simp [results, Tryz.results41, go_sem, q0]) rfl ⟨_, _, rfl, q1, Hb13.out.trans (q2.mono Hb13.out.size)⟩
          · have hq0 : (v == 0) = false := by simpa using hv
            clear hv
            go_wp2_with fail
            go_meet
            exact ⟨_, rfl, Hst11.out⟩
  case rest =>
  obtain ⟨u11, rfl, hst⟩ := hcut
  obtain ⟨wt, rfl⟩ : ∃ wt : World, wt = wc := ⟨_, rfl⟩
  obtain ⟨wa, ewa, hba, hsa, l0, l1⟩ := box_stop wt c q
  obtain ⟨wb, ewb, hbb, hsb, k0⟩ := box_tour wa (.slice (some ⟨wt.heap.size, 0, none⟩) 1 1)
  have hstb := hst.next (bel2 hba hbb)
  have hlt := hst.lt
  have Hlb : Hid (Lies wb wt.heap.size [.int .i64 c, .int .i64 q]) := Lib.hid (fun j u hj => by
    match j, hj with
    | 0, hj => simp at hj; subst hj; exact cell_below hbb l0
    | 1, hj => simp at hj; subst hj; exact cell_below hbb l1)
  have Hkb := Lib.hid (lies_one k0)
  have Hstb := Lib.hid hstb
  have hown := World.ownsRow.lt hst.own
  have Hown := Lib.hid hown
  clear c0 c1 c2 c3 c4 c5 s0 s1 o0 o1
  have s0 := cell_below hst.below Hs0.out
  have s1 := cell_below hst.below Hs1.out
  have o0 := hst.cell 0 _ rfl
  have hszb : go + 1 ≤ wb.heap.size := by omega
  clear hba hbb l0 l1 k0 hstb hst hown
  have hn12 : n + 1 ≤ 1000000000000 := by omega
  go_wp2_with (at_builtin; go_loud (refine wpList_pushN rfl _ _ 79 102 (.agg #[.slice none 0 0]) 1 24 Tryz.underlying79 info_tour rfl (by decide) (by decide) rfl wb (go + 1) (.slice oa n oc) n rvs [.slice (some ⟨wt.heap.size, 0, none⟩) 1 1] wa.heap.size rfl (by rw [hsa]; rfl) Hkb.out rfl (by intro u hu; simp at hu; subst hu; rfl) Hstb.out.own hn12 hszb ?_))
  intro g12 c12 w12 hrow12 hg12 hb12 hat12 hge12 hlt12
  have y0 := (Hstb.out.cell.kept hg12 (Hstb.out.notown (Nat.le_refl _))) 0 _ rfl
  have y1 := frozen_grown hg12 Hstb.out.lt (Hstb.out.notown (Nat.le_refl _)) Hstb.out.free
  have Hst13 := Lib.hid (Hstb.out.push hg12 hrow12)
  have Hli13 := Lib.hid ((Hlb.out.kept hg12 (fun e => by have := (Hown.out _ e.symm).2; omega)).kept (grownBy_setCell w12 ⟨go, 0, none⟩ (.slice (some ⟨g12, 0, none⟩) (n + 1) c12)) (by simp; omega))
  have hltt : go < wt.heap.size := hlt
  clear hrow12 hg12 hb12 hat12 hge12 hlt12 s0 s1 o0 ewa ewb hsa hsb
  go_upto_region 12 with fail
  obtain ⟨w13, ew13⟩ : ∃ wx, w12.setCell ⟨go, 0, none⟩ (.slice (some ⟨g12, 0, none⟩) (n + 1) c12) = wx := ⟨_, rfl⟩
  rw [ew13] at Hst13 Hli13 ⊢
  have HF := Lib.hid (dayAt_new (m := m) (s := (c, q)) Hst13.out Hl.out Hn.out hn9 (by rw [← Hn.out]; exact HT.out.len) Hrw.out HT.out.rows hltt Hli13.out)
  have o0 := Hst13.out.cell 0 _ rfl
  obtain ⟨rv, hrv⟩ := Hst13.out.rcell
  have r0 := hrv 0 _ rfl
  have r1 := Hst13.out.rfree
  clear ew13 y0 y1 hrv
  go_wp2_with fail
  obtain ⟨q0, q1, q2⟩ := HF.out
  refine bodyPost_ret (v := .agg #[.slice (some ⟨g12, 0, none⟩) (n + 1) c12]) (by simp [results, Tryz.results41, go_sem, q0]) rfl ⟨_, _, rfl, q1, Hb13.out.trans (q2.mono Hb13.out.size)⟩
end

section
open Go.RowKit
set_option linter.unusedVariables false
set_option maxRecDepth 100000
attribute [local go_sem ↓] Go.wp_at_zero Go.wp_at_succ

theorem wrap_neg1 {x : Int} (h : x < 0) (h0 : -9223372036854775808 ≤ x) : wrap64 (x + 1) = x + 1 := wrap_id (by omega) (by omega)
theorem wrap_neg2 {x : Int} (h : x < 0) (h0 : -9223372036854775808 ≤ x) : wrap64 (-(x + 1)) = -(x + 1) := wrap_id (by omega) (by omega)
theorem wrap_small {R n : Nat} (h : R < n) (hn : n ≤ 9223372036854775807) : wrap64 (R : Int) = (R : Int) := wrap_id (by omega) (by omega)
def DaysIn (n : Nat) (V : List (Int × Int)) : Prop := V.length ≤ 64 ∧ ∀ p ∈ V, 0 ≤ p.1 ∧ p.1 < n
def VisitsOut (n : Nat) (w : World) (e : Ending) (w' : World) : Prop := ∃ a k c V b, e = .returned (.tuple #[.slice a k c, .bool b]) ∧ Vis w' (.slice a k c) V ∧ (b = true → DaysIn n V) ∧ Below w.heap.size w w'

set_option maxRecDepth 100000 in
set_option maxHeartbeats 3200000 in
theorem visits16_is (n : Nat) (i1 cap i3 : Int) (cv dv pk : Value) (kd dm : Int) (pt : Value) (rt sz st ru hd : Int) (ps : List Nat) (i : Nat) (xs : List Int) (w : World) (hcv : ∃ ca cn cc, cv = .slice ca cn cc) (hdv : ∃ da dn dc, dv = .slice da dn dc) (hC : OkC n ⟨kd, dm, ps, rt, sz, st, ru, hd⟩) (hn : n ≤ 7) (hp : Words w pt ps) (hx : Ints w pk xs) (hxw : ∀ x ∈ xs, (Lit.int .i64 x).wf = true) :
    Calls Tryz.prog 40 #[.agg #[.int .i64 n, .int .i64 i1, .int .i64 cap, .int .i64 i3, cv, dv], .agg #[.int .i64 kd, .int .i64 dm, pt, .int .i64 rt, .int .i64 sz, .int .i64 st, .int .i64 ru, .int .i64 hd], .int .i64 i, pk] w (VisitsOut n w) := by
  obtain ⟨ca, cn, cc, rfl⟩ := hcv
  obtain ⟨da, dn, dc, rfl⟩ := hdv
  obtain ⟨ta, tn, tc, rfl⟩ := words_form hp
  obtain ⟨w1, ew1, hb1, hs1, hy⟩ := box_inst w (.int .i64 n) (.int .i64 i1) (.int .i64 cap) (.int .i64 i3) (.slice ca cn cc) (.slice da dn dc)
  obtain ⟨w2, ew2, hb2, hs2, hz⟩ := box_cust w1 kd dm (.slice ta tn tc) rt sz st ru hd
  have hbb := bel2 hb1 hb2
  have hy2 := hy.below hb2
  obtain ⟨c0, c1, c2, c3, c4, c5⟩ := hy2
  rw [hs1] at hz
  have Hz := Lib.hid hz
  obtain ⟨z0, z1, z2, z3, z4, z5, z6, z7⟩ := hz
  obtain ⟨pa, pn, pc, rfl, hpn, hpm, hpc⟩ := (hx.below hbb).open
  have Hew1 := Lib.hid ew1
  have Hew2 := Lib.hid ew2
  have Hbb := Lib.hid hbb
  have Hpc := Lib.hid hpc
  have Hpn := Lib.hid hpn
  have Hxw := Lib.hid hxw
  have Hw := Lib.hid (hp.below hbb)
  have HC : Hid (CuOk n kd dm ps rt sz st ru hd) := Lib.hid hC
  have hszw : w.heap.size ≤ w2.heap.size := hbb.size
  clear ew1 ew2 hb1 hb2 hs1 hs2 hy hbb hp hx hpn hpc hxw hC
  go_enter Tryz.func40, Tryz.ntmps40
  go_upto_region 1 with (fail)
  rw [Hew1.out]
  rw [Hew2.out]
  generalize w.heap.size + 1 = gc at *
  by_cases hru : ru = 2
  · subst hru
    rcases HC.out with ⟨_, _, _, _, _, _, h0⟩ | ⟨h1, T⟩
    · omega
    subst h1
    have HA := Lib.hid (refAny_is dm (.slice ta tn tc) (.slice none 0 0) rt sz st hd cap n [] w2 T (by omega) (Ints.nil w2) (fun d => by unfold priceAt; rw [if_neg (by simp)]; omega))
    have Hf : Hid (anyB st sz rt hd cap [] n = true → DaysIn n (anyV st sz rt hd cap [] n)) := Lib.hid (fun hb => by
      have hs := found_suits (V := anyV st sz rt hd cap [] n) (b := anyB st sz rt hd cap [] n) (P := []) (by omega) HC.out (.inr (.inr ⟨rfl, rfl, T, rfl, rfl⟩)) hb
      have h2 := suit_facts (by omega) HC.out hs
      exact ⟨h2.len, fun p hp => by have := h2.one p hp; omega⟩)
    clear T
    go_wp2_with fail
    refine HA.out.mono ?_
    rintro e w3 ⟨vv, rfl, hown, hb3⟩
    have Hv := Lib.hid hown.vis
    obtain ⟨va, vn, vc, rfl, _⟩ := hown.vis.open
    have HB := Lib.hid (Hbb.out.trans (hb3.mono hszw))
    clear hown hb3 c0 c1 c2 c3 c4 c5 z0 z1 z2 z3 z4 z5 z6 z7
    go_wp2_with fail
    go_ret2
    exact ⟨_, _, _, _, _, rfl, Hv.out, Hf.out, HB.out⟩
  · have hq : (ru == 2) = false := by simpa using hru
    have HA := Lib.hid (allC_is kd dm (.slice ta tn tc) rt sz st ru hd cap n ps w2 HC.out (by omega) Hw.out)
    have Hin : Hid (∀ V ∈ allV kd dm ps rt sz st cap n, DaysIn n V) := Lib.hid (fun V hV => by
      have hs := allV_suits (by omega) HC.out V hV
      have h2 := suit_facts (by omega) HC.out hs
      exact ⟨h2.len, fun p hp => by have := h2.one p hp; omega⟩)
    generalize allV kd dm ps rt sz st cap n = AV at *
    clear hru
    go_wp2_with fail
    refine HA.out.mono ?_
    rintro e w3 ⟨vv, rfl, hown, hb3⟩
    obtain ⟨va, vn, vc, rfl, hvn, hvm, hvc⟩ := hown.grid.open
    have Hvn := Lib.hid hvn
    have Hvc := Lib.hid hvc
    have Hb3 := Lib.hid hb3
    have HB := Lib.hid (Hbb.out.trans (hb3.mono hszw))
    clear hown hb3 c0 c1 c2 c3 c4 c5 z0 z1 z2 z3 z4 z5 z6 z7 hvn hvc
    by_cases h0 : vn = 0
    · subst h0
      go_wp2_with fail
      go_ret2
      exact ⟨none, 0, 0, [], false, rfl, Vis.nil _, (fun h => by cases h), HB.out⟩
    · have hq2 : ((vn : Int) == 0) = false := by simpa using h0
      have hv0 : 0 < vn := Nat.pos_of_ne_zero h0
      have hvi : ¬ (vn : Int) = 0 := by omega
      go_upto_if 35 with fail
      go_cut [11] (fun s11 wx => ∃ x : Int, s11 = .int .i64 x ∧ -9223372036854775808 ≤ x ∧ x ≤ 9223372036854775807 ∧ w3 = wx)
      case first =>
        by_cases hip : (i : Int) < (pn : Int)
        · have hip' : decide ((i : Int) < (pn : Int)) = true := decide_eq_true hip
          have hipn : i < pn := by omega
          have hii0 : (0 : Int) ≤ (i : Int) := by omega
          obtain ⟨b, o, rfl, f0⟩ := Hpc.out i hipn
          have f0 := cell_below Hb3.out f0
          have hwx := wf_i64 (Hxw.out (nth xs i) (by
            have hl : i < xs.length := by rw [Hpn.out]; exact hipn
            rw [nth_lt hl]; exact List.getElem_mem hl))
          generalize nth xs i = X at *
          have Hwx := Lib.hid hwx
          clear hwx
          first | rw [hip'] | skip
          go_wp2_with fail
          go_meet
          exact ⟨X, rfl, Hwx.out.1, Hwx.out.2, rfl⟩
        · have hip' : decide ((i : Int) < (pn : Int)) = false := decide_eq_false hip
          first | rw [hip'] | skip
          go_wp2_with fail
          go_meet
          exact ⟨0, rfl, by omega, by omega, rfl⟩
      case rest =>
      obtain ⟨x, rfl, hx0, hx1, rfl⟩ := hcut
      obtain ⟨w3, rfl⟩ : ∃ wq : World, wq = w3 := ⟨_, rfl⟩
      go_upto_if 41 with fail
      go_cut [11] (fun s11 wx => ∃ x : Int, s11 = .int .i64 x ∧ 0 ≤ x ∧ x ≤ 9223372036854775807 ∧ w3 = wx)
      case first =>
        by_cases hneg : x < 0
        · have hneg' : decide (x < 0) = true := decide_eq_true hneg
          have Hr : Hid (0 ≤ -(x + 1) ∧ -(x + 1) ≤ 9223372036854775807) := Lib.hid (by omega)
          have hwa := wrap_neg1 hneg hx0
          have hwb := wrap_neg2 hneg hx0
          have Hwb := Lib.hid hwb
          first | rw [hneg'] | skip
          clear hneg
          go_wp2_with fail
          go_meet
          exact ⟨-(x + 1), (by first | rfl | exact congrArg (Value.int .i64) Hwb.out | simp [Hwb.out]), Hr.out.1, Hr.out.2, rfl⟩
        · have hneg' : decide (x < 0) = false := decide_eq_false hneg
          have Hr : Hid (0 ≤ x) := Lib.hid (by omega)
          have Hr1 := Lib.hid hx1
          first | rw [hneg'] | skip
          clear hneg
          go_wp2_with fail
          go_meet
          exact ⟨x, rfl, Hr.out, Hr1.out, rfl⟩
      case rest =>
      obtain ⟨y, rfl, hy0, hy1, rfl⟩ := hcut
      obtain ⟨w3, rfl⟩ : ∃ wq : World, wq = w3 := ⟨_, rfl⟩
      obtain ⟨R, hR⟩ : ∃ R : Nat, y % (vn : Int) = (R : Int) ∧ R < vn := by
        have h1 := Int.emod_nonneg y hvi
        have h2 := Int.emod_lt_of_pos y (show (0 : Int) < (vn : Int) by omega)
        exact ⟨(y % (vn : Int)).toNat, by omega, by omega⟩
      obtain ⟨hR1, hR2⟩ := hR
      have hR3 : y.tmod (vn : Int) = (R : Int) := by rw [Int.tmod_eq_emod_of_nonneg hy0]; exact hR1
      obtain ⟨b, o, ra, rn, rc, rfl, _, g0, hvr⟩ := Hvc.out R hR2
      have Hvr := Lib.hid hvr
      have HD := Lib.hid (Hin.out _ (nthU_mem (D := AV) (k := R) (by rw [Hvn.out]; exact hR2)))
      have hr0 : (0 : Int) ≤ (R : Int) := by omega
      have hr1 : (R : Int) < (vn : Int) := by omega
      have hr2 : (R : Int) ≤ 9223372036854775807 := by omega
      clear hvr hx0 hx1 hy0 hy1 h0 hv0
      go_wp2_with fail
      go_ret2
      exact ⟨_, _, _, _, true, rfl, Hvr.out, fun _ => HD.out, HB.out⟩
end

section
open Go.RowKit
set_option linter.unusedVariables false
set_option maxRecDepth 100000
attribute [local go_sem ↓] Go.wp_at_zero Go.wp_at_succ

theorem info_day : (Tryz.prog.info? 81).map (fun i => (i.zero, i.size, i.bytes)) = some (some (.agg #[.slice none 0 0]), 1, 24) := by kernel_rfl
theorem box_planF (w : World) (sv : Value) : ∃ w1, w.alloc (.cells #[sv] 40) = w1 ∧ Below w.heap.size w w1 ∧ w1.heap.size = w.heap.size + 1 ∧ w1.cell? ⟨w.heap.size, 0, none⟩ = some sv ∧ w1.frozen? ⟨w.heap.size, 0, none⟩ = false := ⟨_, rfl, belAlloc _ _, by simp, by simp [go_sem], by simp [go_sem]⟩
theorem made_days (w : World) (N : Nat) (hN : N ≤ 65536) : ∃ w4, (Instr.makeSlice 38 (.int .i64 (N : Int)) (.int .i64 (N : Int))).run Tryz.prog w = .ok (.slice (some ⟨w.heap.size, 0, none⟩) N N) w4 ∧
    w4.ownsRow w.heap.size 81 1 (.slice (some ⟨w.heap.size, 0, none⟩) N N) N (List.replicate N (.slice none 0 0)) ∧ Below w.heap.size w w4 := by
  obtain ⟨ii, hi, hz, hsi, hby⟩ := info_parts info_day
  obtain ⟨w4, hmk, hown0, hg4⟩ := run_make_full (P := Tryz.prog) w w.heap.size 38 81 ii (.agg #[.slice none 0 0]) 1 Tryz.underlying38 hi hz hsi .i64 .i64 N (by rw [hby]; omega) (by simp only [maxLen]; omega) (Nat.le_refl _)
  refine ⟨w4, hmk, ?_, (Below.refl w.heap.size w).grown hg4 (Nat.le_refl _) (by simp)⟩
  rw [Nat.mul_one] at hown0
  have h2 := hown0
  rw [show (Value.agg #[Value.slice none 0 0]).cells = #[Value.slice none 0 0] from rfl] at h2
  rw [toList_madeCells_one] at h2
  exact h2
/-- A store over a day's tours: other days stay, and rows of visits. -/
theorem dayAt_store {m m' gd d : Nat} {w : World} {v tv0 : Value} {T T0 : List (List (Int × Int))} (h : DayAt m w v T) (h0 : DayAt m' w tv0 T0) (hc : w.cell? ⟨gd, d, none⟩ = some tv0) (u : Value) : DayAt m (w.setCell ⟨gd, d, none⟩ u) v T := by
  obtain ⟨ta, tn, tc, rfl, htn, _, htc⟩ := h0.tours.open
  refine ⟨?_, h.nil, h.len, h.rows⟩
  obtain ⟨a, n, c, rfl, hn, hn9, hcell⟩ := h.tours.open
  refine ⟨a, c, by rw [hn], by omega, fun i hi => ?_⟩
  obtain ⟨b, o, sa, sn, sc, ha, g0, hp⟩ := hcell i (by omega)
  have hrow := h.rows (nthT T i) (nthT_in hi)
  refine ⟨b, o, .slice sa sn sc, ha, ?_, ?_⟩
  · rw [World.cell?_setCell_other]
    · exact g0
    · intro e
      have hc2 : w.cell? ⟨b, o + i, none⟩ = some (.slice ta tn tc) := by first | (rw [← e]; exact hc) | (rw [e]; exact hc)
      rw [g0] at hc2
      have hc := hc2
      simp only [Option.some.injEq, Value.slice.injEq] at hc
      obtain ⟨rfl, rfl, rfl⟩ := hc
      obtain ⟨_, _, _, he, hl, _, hpc⟩ := hp.open
      simp only [Value.slice.injEq] at he
      obtain ⟨rfl, rfl, rfl⟩ := he
      obtain ⟨b1, o1, hb1, g1, _⟩ := hpc 0 (by omega)
      obtain ⟨b2, o2, s2a, s2n, s2c, hb2, g2, _⟩ := htc 0 (by omega)
      rw [hb1] at hb2
      simp only [Option.some.injEq, Addr.mk.injEq, and_true] at hb2
      obtain ⟨rfl, rfl⟩ := hb2
      rw [show o1 + 0 * 2 = o1 + 0 by omega, g2] at g1
      cases g1
  · obtain ⟨a2, c2, he, h1, h2, hc2⟩ := hp
    refine ⟨a2, c2, he, h1, h2, fun j hj => ?_⟩
    obtain ⟨b3, o3, hb3, q0, q1⟩ := hc2 j hj
    refine ⟨b3, o3, hb3, ?_, ?_⟩
    · rw [World.cell?_setCell_other]
      · exact q0
      · intro e; first | (rw [← e, q0] at hc; cases hc) | (rw [e, q0] at hc; cases hc)
    · rw [World.cell?_setCell_other]
      · exact q1
      · intro e; first | (rw [← e, q1] at hc; cases hc) | (rw [e, q1] at hc; cases hc)
theorem vis_store {gd d : Nat} {w : World} {v : Value} {V : List (Int × Int)} {ta : Option Addr} {tn tc : Nat} (h : Vis w v V) (hc : w.cell? ⟨gd, d, none⟩ = some (.slice ta tn tc)) (u : Value) : Vis (w.setCell ⟨gd, d, none⟩ u) v V := by
  obtain ⟨a, c, hv, h1, h2, hcell⟩ := h
  refine ⟨a, c, hv, h1, h2, fun j hj => ?_⟩
  obtain ⟨b3, o3, hb3, q0, q1⟩ := hcell j hj
  refine ⟨b3, o3, hb3, ?_, ?_⟩
  · rw [World.cell?_setCell_other]
    · exact q0
    · intro e; first | (rw [← e, q0] at hc; cases hc) | (rw [e, q0] at hc; cases hc)
  · rw [World.cell?_setCell_other]
    · exact q1
    · intro e; first | (rw [← e, q1] at hc; cases hc) | (rw [e, q1] at hc; cases hc)
/-- The days, as far as they are made. -/
structure MadeSt (w5 wr : World) (gd n m : Nat) (tvs : List Value) (P : List (List (List (Int × Int)))) : Prop where
  own : wr.ownsRow gd 81 1 (.slice (some ⟨gd, 0, none⟩) n n) n tvs
  vl : tvs.length = n
  pl : P.length = n
  day : ∀ d, d < n → DayAt m wr (tvs.getD d undef) (nthD P d)
  below : Below gd w5 wr
theorem MadeSt.at_ {w5 wr : World} {gd n m d : Nat} {tvs : List Value} {P : List (List (List (Int × Int)))} (h : MadeSt w5 wr gd n m tvs P) (hd : d < n) : wr.cell? ⟨gd, d, none⟩ = some (tvs.getD d undef) ∧ wr.frozen? ⟨gd, d, none⟩ = false ∧ gd < wr.heap.size := by
  obtain ⟨g', hg', hc⟩ := owns_cell h.own d (tvs.getD d undef) (by have := h.vl; simp [List.getD, show d < tvs.length by omega])
  simp only [Value.ownBlock, Option.some.injEq] at hg'
  subst hg'
  exact ⟨hc, owns_freeT h.own d, World.block_lt_of_cell? _ _ hc⟩
theorem MadeSt.next {w5 wr w' : World} {gd n m : Nat} {tvs : List Value} {P : List (List (List (Int × Int)))} (h : MadeSt w5 wr gd n m tvs P) (hgd : gd ≤ wr.heap.size) (hb : Below wr.heap.size wr w') : MadeSt w5 w' gd n m tvs P :=
  ⟨World.ownsRow.kept (row := none) h.own (grownBy_below hb) (by simp [Value.ownBlock]), h.vl, h.pl, fun d hd => (h.day d hd).below hb, h.below.trans (hb.mono hgd)⟩
theorem MadeSt.mono {w5 wr : World} {gd n m m' : Nat} {tvs : List Value} {P : List (List (List (Int × Int)))} (h : MadeSt w5 wr gd n m tvs P) (hm : m ≤ m') : MadeSt w5 wr gd n m' tvs P := ⟨h.own, h.vl, h.pl, fun d hd => (h.day d hd).mono hm, h.below⟩
theorem nthD_set_here {P : List (List (List (Int × Int)))} {k : Nat} {r : List (List (Int × Int))} (h : k < P.length) : nthD (P.set k r) k = r := by simp [nthD, h]
theorem nthD_set_other {P : List (List (List (Int × Int)))} {k i : Nat} {r : List (List (Int × Int))} (h : i ≠ k) : nthD (P.set k r) i = nthD P i := by
  simp [nthD, show ¬ k = i from fun e => h e.symm]
theorem MadeSt.store {w5 wr : World} {gd n m d : Nat} {tvs : List Value} {P : List (List (List (Int × Int)))} {tv : Value} {T : List (List (Int × Int))} (h : MadeSt w5 wr gd n m tvs P) (hd : d < n) (hT : DayAt (m + 1) wr tv T) : MadeSt w5 (wr.setCell ⟨gd, d, none⟩ tv) gd n (m + 1) (tvs.set d tv) (P.set d T) := by
  obtain ⟨hc, _, _⟩ := h.at_ hd
  have h0 := h.day d hd
  refine ⟨(World.ownsRow.stored h.own d tv).1, by rw [List.length_set]; exact h.vl, by rw [List.length_set]; exact h.pl, fun i hi => ?_, h.below.setCell (p := ⟨gd, d, none⟩) (Nat.le_refl _) _⟩
  by_cases e : i = d
  · subst e
    rw [getD_set_here (by have := h.vl; omega), nthD_set_here (by have := h.pl; omega)]
    exact dayAt_store hT h0 hc tv
  · rw [getD_set_other e, nthD_set_other e]
    exact (dayAt_store (h.day i hi) h0 hc tv).mono (Nat.le_succ m)
theorem MadeSt.days {w5 wr : World} {gd n m : Nat} {tvs : List Value} {P : List (List (List (Int × Int)))} (h : MadeSt w5 wr gd n m tvs P) (hn : n ≤ 64) (hm : m ≤ 1000) : DaysP wr (.slice (some ⟨gd, 0, none⟩) n n) P ∧ SmallP P := by
  have hp := h.pl
  refine ⟨⟨_, n, by rw [hp], by omega, fun i hi => ?_⟩, by omega, fun d hd => ?_, fun d hd r hr => ?_⟩
  · obtain ⟨hc, _, _⟩ := h.at_ (d := i) (by omega)
    exact ⟨gd, 0, _, rfl, by rw [Nat.zero_add]; exact hc, (h.day i (by omega)).tours⟩
  · have := (h.day d (by omega)).len; omega
  · have := (h.day d (by omega)).rows r hr; omega
def MadeOut (w : World) (e : Ending) (w' : World) : Prop :=
  ∃ a n c b, e = .returned (.tuple #[.agg #[.slice a n c], .bool b]) ∧ (b = true → ∃ P, DaysP w' (.slice a n c) P ∧ SmallP P) ∧ Below w.heap.size w w'
end

section
open Go.RowKit
set_option linter.unusedVariables false
set_option maxRecDepth 100000
attribute [local go_sem ↓] Go.wp_at_zero Go.wp_at_succ

theorem MadeSt.done {w5 wr : World} {gd gr n m : Nat} {tvs : List Value} {P : List (List (List (Int × Int)))} (h : MadeSt w5 wr gd n m tvs P) (hgr : gr < gd) (hc : wr.cell? ⟨gr, 0, none⟩ = some (.slice none 0 0)) (u : Value) : MadeSt (wr.setCell ⟨gr, 0, none⟩ u) (wr.setCell ⟨gr, 0, none⟩ u) gd n m tvs P :=
  ⟨World.ownsRow.kept h.own (grownBy_setCell wr ⟨gr, 0, none⟩ u) (.inr (by simp [Value.ownBlock]; omega)), h.vl, h.pl, fun d hd => dayAt_store (m' := 0) (T0 := []) (h.day d hd) ⟨⟨none, 0, rfl, by simp, fun i hi => absurd hi (by simp)⟩, fun _ => rfl, by simp, fun r hr => absurd hr (by simp)⟩ hc u, Below.refl _ _⟩

theorem keep_int {w : World} {gd X b j : Nat} {x : Int} {a : Option Addr} {n c : Nat} (h : w.cell? ⟨b, j, none⟩ = some (.int .i64 x)) (ht : w.cell? ⟨gd, X, none⟩ = some (.slice a n c)) (u : Value) : (w.setCell ⟨gd, X, none⟩ u).cell? ⟨b, j, none⟩ = some (.int .i64 x) := by
  rw [World.cell?_setCell_other]
  · exact h
  · intro e; first | (rw [← e, h] at ht; cases ht) | (rw [e, h] at ht; cases ht)
theorem keep_at {w : World} {gd X b j : Nat} {v : Value} (h : w.cell? ⟨b, j, none⟩ = some v) (hb : b < gd) (u : Value) : (w.setCell ⟨gd, X, none⟩ u).cell? ⟨b, j, none⟩ = some v := by
  rw [World.cell?_setCell_other]
  · exact h
  · intro e
    have e1 := congrArg Addr.block e
    simp only at e1
    omega
theorem keep_store {w : World} {gd X g0 gp b2 o2 gs : Nat} {v0 v1 v2 v3 v4 v5 v6 : Value} {y k Q : Int} {a : Option Addr} {n c : Nat} (h : w.cell? ⟨g0, 0, none⟩ = some v0 ∧ w.cell? ⟨g0, 1, none⟩ = some v1 ∧ w.cell? ⟨g0, 2, none⟩ = some v2 ∧ w.cell? ⟨g0, 3, none⟩ = some v3 ∧ w.cell? ⟨g0, 4, none⟩ = some v4 ∧ w.cell? ⟨g0, 5, none⟩ = some v5 ∧ w.cell? ⟨gp, 0, none⟩ = some v6 ∧ w.cell? ⟨b2, o2, none⟩ = some (.int .i64 y) ∧ w.cell? ⟨gs, 0, none⟩ = some (.int .i64 k) ∧ w.cell? ⟨gs, 1, none⟩ = some (.int .i64 Q))
    (ht : w.cell? ⟨gd, X, none⟩ = some (.slice a n c)) (u : Value) (h0 : g0 < gd) (hp : gp < gd) :
    (w.setCell ⟨gd, X, none⟩ u).cell? ⟨g0, 0, none⟩ = some v0 ∧ (w.setCell ⟨gd, X, none⟩ u).cell? ⟨g0, 1, none⟩ = some v1 ∧ (w.setCell ⟨gd, X, none⟩ u).cell? ⟨g0, 2, none⟩ = some v2 ∧ (w.setCell ⟨gd, X, none⟩ u).cell? ⟨g0, 3, none⟩ = some v3 ∧ (w.setCell ⟨gd, X, none⟩ u).cell? ⟨g0, 4, none⟩ = some v4 ∧ (w.setCell ⟨gd, X, none⟩ u).cell? ⟨g0, 5, none⟩ = some v5 ∧ (w.setCell ⟨gd, X, none⟩ u).cell? ⟨gp, 0, none⟩ = some v6 ∧ (w.setCell ⟨gd, X, none⟩ u).cell? ⟨b2, o2, none⟩ = some (.int .i64 y) ∧ (w.setCell ⟨gd, X, none⟩ u).cell? ⟨gs, 0, none⟩ = some (.int .i64 k) ∧ (w.setCell ⟨gd, X, none⟩ u).cell? ⟨gs, 1, none⟩ = some (.int .i64 Q) :=
  ⟨keep_at h.1 h0 u, keep_at h.2.1 h0 u, keep_at h.2.2.1 h0 u, keep_at h.2.2.2.1 h0 u, keep_at h.2.2.2.2.1 h0 u, keep_at h.2.2.2.2.2.1 h0 u, keep_at h.2.2.2.2.2.2.1 hp u, keep_int h.2.2.2.2.2.2.2.1 ht u, keep_int h.2.2.2.2.2.2.2.2.1 ht u, keep_int h.2.2.2.2.2.2.2.2.2 ht u⟩

set_option maxRecDepth 100000 in
set_option maxHeartbeats 3200000 in
theorem made_is (n : Nat) (i1 cap i3 : Int) (cv dv pk jv : Value) (L : List Cu) (D : List (List Int)) (xs : List Int) (bs : List Bool) (w : World) (hC : Custs w cv L) (hG : Grid w dv D) (hD : ArcBd D) (hOk : OkI n L) (hL6 : L.length ≤ 6) (hx : Ints w pk xs) (hxw : ∀ x ∈ xs, (Lit.int .i64 x).wf = true) (hj : Bools w jv bs) (hbl : bs.length ≤ 9223372036854775807) :
    Calls Tryz.prog 20 #[.agg #[.int .i64 n, .int .i64 i1, .int .i64 cap, .int .i64 i3, cv, dv], pk, jv] w (MadeOut w) := by
  obtain ⟨w1, ew1, hb1, hs1, hy⟩ := box_inst w (.int .i64 n) (.int .i64 i1) (.int .i64 cap) (.int .i64 i3) cv dv
  obtain ⟨w2, ew2, hb2, hs2, r0, r1⟩ := box_planF w1 (.slice none 0 0)
  obtain ⟨w3, ew3, hb3, hs3, p0, p1⟩ := box_planF w2 (.slice none 0 0)
  have hn7 := hOk.n7
  obtain ⟨w4, hmk, hown, hb4⟩ := made_days w3 n (by omega)
  have r0 := cell_below (bel2 hb3 hb4) r0
  have r1 := frozen_below (bel2 hb3 hb4) (by omega) r1
  have p0 := cell_below hb4 p0
  have p1 := frozen_below hb4 (by omega) p1
  rw [hs1] at r0 r1
  rw [hs2, hs1] at p0 p1
  have hb14 := bel2 hb2 (bel2 hb3 hb4)
  have hy4 := hy.below hb14
  have h3 : w3.heap.size = w.heap.size + 1 + 1 + 1 := by omega
  have h4 : w3.heap.size ≤ w4.heap.size := hb4.size
  obtain ⟨ca, N, cc, rfl, hN, _, hcell⟩ := hC.open
  obtain ⟨da, dn, dc, rfl, _, _, _⟩ := hG.open
  obtain ⟨xa, xn, xc, rfl, _, _, _⟩ := hx.open
  have hj' := hj
  obtain ⟨ja, jn, jc, rfl, hjn, hjc⟩ := hj'
  have hy3 := hy.below (bel2 hb2 hb3)
  obtain ⟨c0, c1, c2, c3, c4, c5⟩ := hy3
  obtain ⟨gd, hgd⟩ : ∃ gd, gd = w3.heap.size := ⟨_, rfl⟩
  rw [← hgd] at hown hmk
  obtain ⟨w5, ew5⟩ : ∃ w5, w4.setCell ⟨w.heap.size + 1 + 1, 0, none⟩ (.slice (some ⟨gd, 0, none⟩) n n) = w5 := ⟨_, rfl⟩
  have hgs := grownBy_setCell w4 ⟨w.heap.size + 1 + 1, 0, none⟩ (.slice (some ⟨gd, 0, none⟩) n n)
  rw [ew5] at hgs
  have hgdp : gd = w.heap.size + 1 + 1 + 1 := by omega
  have hb15 : Below w1.heap.size w1 w5 := hb14.grown hgs hb14.size (fun k hk => by simp at hk; omega)
  have hb05 := bel2 hb1 hb15
  have r0 := hgs.cell r0 (by simp)
  have r1 := frozen_grown hgs (by omega) (by simp) r1
  have p05 : w5.cell? ⟨w.heap.size + 1 + 1, 0, none⟩ = some (.slice (some ⟨gd, 0, none⟩) n n) := by rw [← ew5]; exact ((lies_one p0).set 0 _ (by simp)) 0 _ (by simp)
  have p15 : w5.frozen? ⟨w.heap.size + 1 + 1, 0, none⟩ = false := by rw [← ew5, World.frozen?_setCell]; exact p1
  have hown5 : w5.ownsRow gd 81 1 (.slice (some ⟨gd, 0, none⟩) n n) n (List.replicate n (.slice none 0 0)) := World.ownsRow.kept hown hgs (.inr (by simp [Value.ownBlock]; omega))
  have hsz5 : gd < w5.heap.size := by have h1 := (World.ownsRow.lt hown5 gd rfl).2; exact h1
  have hst : MadeSt w5 w5 gd n 0 (List.replicate n (.slice none 0 0)) (List.replicate n []) := ⟨hown5, by simp, by simp, fun d hd => by
    have e1 : (List.replicate n (Value.slice none 0 0)).getD d undef = .slice none 0 0 := by simp [List.getD, hd]
    have e2 : nthD (List.replicate n []) d = [] := by simp [nthD, hd]
    rw [e1, e2]
    exact ⟨⟨none, 0, rfl, by simp, fun i hi => absurd hi (by simp)⟩, fun _ => rfl, by simp, fun r hr => absurd hr (by simp)⟩, Below.refl _ _⟩
  have Hst := Lib.hid hst
  have Hb15 := Lib.hid hb15
  have Hb05 := Lib.hid hb05
  have Hy5 := Lib.hid (hy.below hb15)
  have Hp05 := Lib.hid p05
  have Hr0 := Lib.hid r0
  have Hr1 := Lib.hid r1
  have Hew1 := Lib.hid ew1
  have Hew2 := Lib.hid ew2
  have Hew3 := Lib.hid ew3
  have Hew5 := Lib.hid ew5
  have Hmk := Lib.hid hmk
  have Hcell := Lib.hid hcell
  have HC := Lib.hid hC
  have HG := Lib.hid hG
  have HX := Lib.hid hx
  have HJ := Lib.hid hj
  have Hy1 := Lib.hid hy
  have HOk := Lib.hid hOk
  have HN := Lib.hid hN
  have HD := Lib.hid hD
  have Hxw := Lib.hid hxw
  have Hgd := Lib.hid hgd
  have Hgr : Hid (w.heap.size + 1 < gd ∧ w.heap.size + 1 + 1 < gd ∧ w1.heap.size ≤ w.heap.size + 1 ∧ w1.heap.size ≤ gd ∧ w.heap.size < w.heap.size + 1) := Lib.hid (by omega)
  have hN6 : N ≤ 6 := by omega
  have hszw : w.heap.size ≤ w5.heap.size := hb05.size
  have Hjc := Lib.hid hjc
  obtain ⟨d0, d1, d2, d3, d4, d5⟩ := hy4
  go_enter Tryz.func20, Tryz.ntmps20
  clear ew1 ew2 ew3 ew5 hmk hown hb1 hb2 hb3 hb4 hb14 hb15 hb05 hs3 h3 h4 hy hC hG hx hj hjc hcell hN hOk hL6 hxw hD hst hown5 hgd hgdp hbl hgs
  go_upto_region 1 with (fail)
  rw [Hew1.out]
  rw [Hew2.out]
  go_upto_region 2 with (fail)
  rw [Hew3.out]
  go_wp2_with fail
  rw [Hmk.out]
  go_upto_region 3 with fail
  rw [Hew5.out]
  clear hs1 hs2
  generalize hgr : w.heap.size + 1 = gr at *
  generalize hgp : gr + 1 = gp at *
  clear hgr hgp
  have hgw : w.heap.size ≤ gd := by have h1 := Hgr.out; omega
  clear d0 d1 d2 d3 d4 d5 c0 c1 c2 c3 c4 c5 r0 r1 p0 p1 p05 p15
  have hy5 := Hy5.out
  obtain ⟨c0, c1, c2, c3, c4, c5⟩ := hy5
  go_wp2_with fail
  go_loopw [9, 10, 11, 12, 13, 14] (fun i z10 z11 z12 z13 z14 wr => ∃ (k : Nat) (y10 y11 y12 y13 y14 : Value) (tvs : List Value) (P : List (List (List (Int × Int)))), y10 = z10 ∧ y11 = z11 ∧ y12 = z12 ∧ y13 = z13 ∧ y14 = z14 ∧ i = .int .i64 k ∧ k ≤ N ∧ MadeSt w5 wr gd n (64 * k) tvs P) (fun i _ _ _ _ _ _ => N - (intOf i).toNat)
  case atStart => exact ⟨0, _, _, _, _, _, _, _, rfl, rfl, rfl, rfl, rfl, rfl, Nat.zero_le _, Hst.out⟩
  case round =>
    obtain ⟨k, y10, y11, y12, y13, y14, tvs, P, rfl, rfl, rfl, rfl, rfl, rfl, hk, hst⟩ := hrel
    obtain ⟨wo, rfl⟩ : ∃ wo : World, wo = wr := ⟨_, rfl⟩
    have Hso := Lib.hid hst
    have hb1o := Hb15.out.trans (hst.below.mono Hgr.out.2.2.2.1)
    have hb0o := Hb05.out.trans (hst.below.mono hgw)
    have Hb1o := Lib.hid hb1o
    have Hb0o := Lib.hid hb0o
    have Hyo := Lib.hid (Hy1.out.below hb1o)
    have p0 := cell_lt hst.below Hgr.out.2.1 Hp05.out
    have r0 := cell_lt hst.below Hgr.out.1 Hr0.out
    have r1 := frozen_lt hst.below Hgr.out.1 Hr1.out
    clear c0 c1 c2 c3 c4 c5 hst hb1o hb0o
    obtain ⟨c0, c1, c2, c3, c4, c5⟩ := Hyo.out
    by_cases hlt : k < N
    · obtain ⟨b, o, pv, rfl, _, hcu⟩ := Hcell.out k hlt
      have hkL : k < L.length := by rw [HN.out]; exact hlt
      have hok := HOk.out.cus _ (nthC_mem hkL)
      obtain ⟨ta, tn, tc, rfl⟩ := words_form hcu.pats
      have hcu := hcu.below Hb0o.out
      generalize nthC L k = Z at *
      obtain ⟨kd, dm, ps, rt, sz, st, ru, hd⟩ := Z
      have HVs := Lib.hid (fun (W : World) (h : Below wo.heap.size wo W) => visits16_is n i1 cap i3 (.slice (some ⟨b, o, none⟩) N cc) (.slice da dn dc) (.slice xa xn xc) kd dm (.slice ta tn tc) rt sz st ru hd ps k xs W ⟨_, _, _, rfl⟩ ⟨_, _, _, rfl⟩ hok hn7 (hcu.pats.below h) (HX.out.below (bel2 Hb0o.out h)) Hxw.out)
      obtain ⟨z0, z1, z2, z3, z4, z5, z6, z7, _⟩ := hcu
      have hi0 : (0 : Int) ≤ (k : Int) := by omega
      have hi1 : (k : Int) < (N : Int) := by omega
      have b0 := Below.refl wo.heap.size wo
      clear hok hkL
      go_upto_region 6 with fail
      go_cut [10, 11] (fun s10 s11 wx => ∃ va vn vc V bv, s10 = .slice va vn vc ∧ s11 = .bool bv ∧ Vis wx (.slice va vn vc) V ∧ (bv = true → DaysIn n V) ∧ Below wo.heap.size wo wx)
      case first =>
        go_region_held3 (fun w' => w'.cell? ⟨w.heap.size, 0, none⟩ = some (.int .i64 n) ∧ w'.cell? ⟨w.heap.size, 1, none⟩ = some (.int .i64 i1) ∧ w'.cell? ⟨w.heap.size, 2, none⟩ = some (.int .i64 cap) ∧ w'.cell? ⟨w.heap.size, 3, none⟩ = some (.int .i64 i3) ∧ w'.cell? ⟨w.heap.size, 4, none⟩ = some (.slice (some ⟨b, o, none⟩) N cc) ∧ w'.cell? ⟨w.heap.size, 5, none⟩ = some (.slice da dn dc) ∧
            w'.cell? ⟨b, o + k * 8, none⟩ = some (.int .i64 kd) ∧ w'.cell? ⟨b, o + k * 8 + 1, none⟩ = some (.int .i64 dm) ∧ w'.cell? ⟨b, o + k * 8 + 2, none⟩ = some (.slice ta tn tc) ∧ w'.cell? ⟨b, o + k * 8 + 3, none⟩ = some (.int .i64 rt) ∧ w'.cell? ⟨b, o + k * 8 + 4, none⟩ = some (.int .i64 sz) ∧ w'.cell? ⟨b, o + k * 8 + 5, none⟩ = some (.int .i64 st) ∧ w'.cell? ⟨b, o + k * 8 + 6, none⟩ = some (.int .i64 ru) ∧ w'.cell? ⟨b, o + k * 8 + 7, none⟩ = some (.int .i64 hd))
          (first | go_keep | exact ⟨cell_below b5 c0, cell_below b5 c1, cell_below b5 c2, cell_below b5 c3, cell_below b5 c4, cell_below b5 c5, cell_below b5 z0, cell_below b5 z1, cell_below b5 z2, cell_below b5 z3, cell_below b5 z4, cell_below b5 z5, cell_below b5 z6, cell_below b5 z7⟩)
          (first
            | (go_at_call 40; refine (HVs.out _ ?_).mono ?_; (first | exact b0 | exact belDrew _); rintro e wM ⟨va, vn, vc, V, bv, rfl, hv, hin, hb5⟩; have Hv := Lib.hid hv; have Hin := Lib.hid hin; clear hv hin; (first | have b5 := bel2 b0 hb5 | have b5 := bel2 (belDrew wo) hb5)))
        all_goals
          go_wp2_with fail
          go_meet
          first
            | exact ⟨_, _, _, V, bv, rfl, rfl, Hv.out, Hin.out, b5⟩
            | exact ⟨_, _, _, V, bv, rfl, rfl, Hv.out.below (belDrew _), Hin.out, b5.drew⟩
      case rest =>
      obtain ⟨va, vn, vc, V, bv, rfl, rfl, hv, hin, hbc⟩ := hcut
      obtain ⟨w6, rfl⟩ : ∃ w6 : World, w6 = wc := ⟨_, rfl⟩
      have hs6 := Hso.out.next (by have := Hgr.out; have h9 := (World.ownsRow.lt Hso.out.own gd rfl).2; omega) hbc
      have Hs6 := Lib.hid hs6
      have Hv6 := Lib.hid hv
      have Hin := Lib.hid hin
      have r0 := cell_below hbc r0
      have r1 := frozen_below hbc (by have h9 := (World.ownsRow.lt Hso.out.own gd rfl).2; have := Hgr.out; omega) r1
      have Hb06 := Lib.hid (Hb0o.out.trans (hbc.mono Hb0o.out.size))
      clear hs6 hv hin hbc b0 c0 c1 c2 c3 c4 c5 z0 z1 z2 z3 z4 z5 z6 z7 p0
      cases bv with
      | false =>
        have Hbf := Lib.hid (Hb06.out.setCell (p := ⟨gr, 0, none⟩) (by have h1 := Hgr.out; simp only []; omega) (.slice none 0 0))
        go_wp2_with fail
        have q0 : (w6.setCell ⟨gr, 0, none⟩ (.slice none 0 0)).cell? ⟨gr, 0, none⟩ = some (.slice none 0 0) := ((lies_one r0).set 0 _ (by simp)) 0 _ (by simp)
        refine bodyPost_ret (v := .tuple #[.agg #[.slice none 0 0], .bool false]) (by simp [results, Tryz.results20, go_sem, q0]) rfl ⟨_, _, _, false, rfl, (fun h => by cases h), Hbf.out⟩
      | true =>
        obtain ⟨_, _, _, he, hvn, _, hvc⟩ := Hv6.out.open
        simp only [Value.slice.injEq] at he
        obtain ⟨rfl, rfl, rfl⟩ := he
        have HDI := Lib.hid (Hin.out rfl)
        have Hvn := Lib.hid hvn
        have hvn64 : vn ≤ 64 := by have := HDI.out.1; omega
        clear hvn hvc r0 r1
        go_wp2_with fail
        go_loopw [12, 13, 14] (fun j z13 z14 wr => ∃ (k2 : Nat) (x13 x14 : Value) (tvs : List Value) (P : List (List (List (Int × Int)))), x13 = z13 ∧ x14 = z14 ∧ j = .int .i64 k2 ∧ k2 ≤ vn ∧ MadeSt w5 wr gd n (64 * k + k2) tvs P ∧ Vis wr (.slice va vn vc) V) (fun j _ _ _ => vn - (intOf j).toNat)
        case atStart => exact ⟨0, _, _, _, _, rfl, rfl, rfl, Nat.zero_le _, Hs6.out, Hv6.out⟩
        case round =>
          obtain ⟨k2, x13, x14, tvs2, P2, rfl, rfl, rfl, hk2, hst, hvis⟩ := hrel
          obtain ⟨wi, rfl⟩ : ∃ wi : World, wi = wr := ⟨_, rfl⟩
          have Hsi := Lib.hid hst
          have Hvi := Lib.hid hvis
          have Hb0i := Lib.hid (Hb05.out.trans (hst.below.mono hgw))
          have Hyi := Lib.hid (Hy1.out.below (Hb15.out.trans (hst.below.mono Hgr.out.2.2.2.1)))
          have Hpi := Lib.hid (cell_lt hst.below Hgr.out.2.1 Hp05.out)
          by_cases hlt2 : k2 < vn
          · obtain ⟨_, _, _, he, hl, _, hvc⟩ := hvis.open
            simp only [Value.slice.injEq] at he
            obtain ⟨rfl, rfl, rfl⟩ := he
            obtain ⟨b2, o2, rfl, f0, f1⟩ := hvc k2 hlt2
            have hin := HDI.out.2 (nthV V k2) (by rw [show nthV V k2 = V[k2]'(by omega) by simp [nthV, show k2 < V.length by omega]]; exact List.getElem_mem _)
            obtain ⟨X, hX⟩ : ∃ X : Nat, (nthV V k2).1 = (X : Int) := ⟨(nthV V k2).1.toNat, by omega⟩
            rw [hX] at f0 hin
            obtain ⟨Q, hQ⟩ : ∃ Q, Q = (nthV V k2).2 := ⟨_, rfl⟩
            rw [← hQ] at f1
            have hXn : X < n := by omega
            obtain ⟨w7, ew7, hb7, hs7, s0, s1⟩ := box_stop wi k Q
            have h9i := (World.ownsRow.lt hst.own gd rfl).2
            have Hs7 := Lib.hid (hst.next (Nat.le_of_lt h9i) hb7)
            have Hv7 := Lib.hid (hvis.below hb7)
            have Hew7 := Lib.hid ew7
            have Hf0 := Lib.hid (cell_below hb7 f0)
            have Hf1 := Lib.hid (cell_below hb7 f1)
            have Hss := Lib.hid (And.intro s0 s1)
            have Hy7 := Lib.hid (Hyi.out.below hb7)
            have Hp7 := Lib.hid (cell_below hb7 Hpi.out)
            have Hb07 := Lib.hid (Hb0i.out.trans (hb7.mono Hb0i.out.size))
            have hj0 : (0 : Int) ≤ (k2 : Int) := by omega
            have hj1 : (k2 : Int) < (vn : Int) := by omega
            have hX0 : (0 : Int) ≤ (X : Int) := by omega
            have hX1 : (X : Int) < (n : Int) := by omega
            have hXl : (X : Int) ≤ 7 := by omega
            have hkl : (k : Int) ≤ 6 := by omega
            clear hst hvis hvc hl hin hX hQ ew7 hb7 s0 s1 h9i hs7
            go_upto_region 13 with fail
            rw [Hew7.out]
            generalize wi.heap.size = gs at *
            have f0 := Hf0.out
            have f1 := Hf1.out
            go_cut [14] (fun s14 wx => ∃ bj : Bool, s14 = .bool bj ∧ w7 = wx)
            case first =>
              by_cases hjl : k + X < jn
              · have hq : (k : Int) + (X : Int) < (jn : Int) := by omega
                have hq0 : (0 : Int) ≤ (k : Int) + (X : Int) := by omega
                obtain ⟨ja', jn', jc', hje, hjn, hjc⟩ := HJ.out
                simp only [Value.slice.injEq] at hje
                obtain ⟨rfl, rfl, rfl⟩ := hje
                obtain ⟨b3, o3, rfl, g3⟩ := hjc (k + X) hjl
                have g3 := cell_below Hb07.out g3
                clear hjc hjn
                go_wp2_with fail
                go_meet
                exact ⟨_, rfl, rfl⟩
              · have hq : ¬ (k : Int) + (X : Int) < (jn : Int) := by omega
                go_wp2_with fail
                go_meet
                exact ⟨_, rfl, rfl⟩
            case rest =>
            obtain ⟨bj, rfl, rfl⟩ := hcut
            obtain ⟨w7, rfl⟩ : ∃ wq : World, wq = w7 := ⟨_, rfl⟩
            obtain ⟨t0, t1, hg7⟩ := Hs7.out.at_ hXn
            have hday := Hs7.out.day X hXn
            obtain ⟨ta, tn, tc, hte, _⟩ := hday.tours.open
            rw [hte] at t0 hday
            have HPut := Lib.hid (fun (W : World) (h : Below w7.heap.size w7 W) => putT_is n i1 cap i3 _ _ (.slice ta tn tc) L D (nthD P2 X) k Q bj (64 * k + k2) W (HC.out.below (bel2 Hb07.out h)) (HG.out.below (bel2 Hb07.out h)) HD.out (by have := HOk.out.len; omega) (hday.below h) (by omega))
            have hc7 := Hy7.out
            obtain ⟨c0, c1, c2, c3, c4, c5⟩ := hc7
            have p0 := Hp7.out
            obtain ⟨s0, s1⟩ := Hss.out
            have b0 := Below.refl w7.heap.size w7
            have Hg7 := Lib.hid hg7
            have Ht0 := Lib.hid t0
            have Ht1 := Lib.hid t1
            clear hday hte f1
            go_upto_region 14 with fail
            refine wp_region_held_drew (S := fun w' => w'.cell? ⟨w.heap.size, 0, none⟩ = some (.int .i64 n) ∧ w'.cell? ⟨w.heap.size, 1, none⟩ = some (.int .i64 i1) ∧ w'.cell? ⟨w.heap.size, 2, none⟩ = some (.int .i64 cap) ∧ w'.cell? ⟨w.heap.size, 3, none⟩ = some (.int .i64 i3) ∧ w'.cell? ⟨w.heap.size, 4, none⟩ = some (.slice (some ⟨b, o, none⟩) N cc) ∧ w'.cell? ⟨w.heap.size, 5, none⟩ = some (.slice da dn dc) ∧ w'.cell? ⟨gp, 0, none⟩ = some (.slice (some ⟨gd, 0, none⟩) n n) ∧ w'.cell? ⟨b2, o2 + k2 * 2, none⟩ = some (.int .i64 X) ∧ w'.cell? ⟨gs, 0, none⟩ = some (.int .i64 k) ∧ w'.cell? ⟨gs, 1, none⟩ = some (.int .i64 Q)) (by kernel_rfl) ?_ (fun hHeld => ?_)
            · go_keep
            (refine wpAnyH_take (i := 0) (v := ?_) rfl (by kernel_rfl) (by kernel_rfl) (by kernel_rfl) (fun _ _ _ h => h) (Or.inl ⟨by rfl, ?_⟩) (by assumption) ?_; rotate_left; focus (intro w' hSw; (try dsimp only at hSw); go_simp; first | done | with_reducible rfl); try simp only [Act.put, List.setIfInBounds_toArray, List.set_cons_zero, List.set_cons_succ])
            (refine wpAnyH_take (i := 1) (v := ?_) rfl (by kernel_rfl) (by kernel_rfl) (by kernel_rfl) (fun _ _ _ h => h) (Or.inl ⟨by rfl, ?_⟩) (by assumption) ?_; rotate_left; focus (intro w' hSw; (try dsimp only at hSw); go_simp; first | done | with_reducible rfl); try simp only [Act.put, List.setIfInBounds_toArray, List.set_cons_zero, List.set_cons_succ])
            (refine wpAnyH_take (i := 2) (v := ?_) rfl (by kernel_rfl) (by kernel_rfl) (by kernel_rfl) (fun _ _ _ h => h) (Or.inl ⟨by rfl, ?_⟩) (by assumption) ?_; rotate_left; focus (intro w' hSw; (try dsimp only at hSw); go_simp; first | done | with_reducible rfl); try simp only [Act.put, List.setIfInBounds_toArray, List.set_cons_zero, List.set_cons_succ])
            (refine wpAnyH_take (i := 3) (v := ?_) rfl (by kernel_rfl) (by kernel_rfl) (by kernel_rfl) (fun _ _ _ h => h) (Or.inl ⟨by rfl, ?_⟩) (by assumption) ?_; rotate_left; focus (intro w' hSw; (try dsimp only at hSw); go_simp; first | done | with_reducible rfl); try simp only [Act.put, List.setIfInBounds_toArray, List.set_cons_zero, List.set_cons_succ])
            (refine wpAnyH_take (i := 4) (v := ?_) rfl (by kernel_rfl) (by kernel_rfl) (by kernel_rfl) (fun _ _ _ h => h) (Or.inl ⟨by rfl, ?_⟩) (by assumption) ?_; rotate_left; focus (intro w' hSw; (try dsimp only at hSw); go_simp; first | done | with_reducible rfl); try simp only [Act.put, List.setIfInBounds_toArray, List.set_cons_zero, List.set_cons_succ])
            (refine wpAnyH_take (i := 5) (v := ?_) rfl (by kernel_rfl) (by kernel_rfl) (by kernel_rfl) (fun _ _ _ h => h) (Or.inl ⟨by rfl, ?_⟩) (by assumption) ?_; rotate_left; focus (intro w' hSw; (try dsimp only at hSw); go_simp; first | done | with_reducible rfl); try simp only [Act.put, List.setIfInBounds_toArray, List.set_cons_zero, List.set_cons_succ])
            (refine wpAnyH_take (i := 6) (v := ?_) rfl (by kernel_rfl) (by kernel_rfl) (by kernel_rfl) (fun _ _ _ h => h) (Or.inl ⟨by rfl, ?_⟩) (by assumption) ?_; rotate_left; focus (intro w' hSw; (try dsimp only at hSw); go_simp; first | done | with_reducible rfl); try simp only [Act.put, List.setIfInBounds_toArray, List.set_cons_zero, List.set_cons_succ])
            (refine wpAnyH_take (i := 7) (v := ?_) rfl (by kernel_rfl) (by kernel_rfl) (by kernel_rfl) (fun _ _ _ h => h) (Or.inl ⟨by rfl, ?_⟩) (by assumption) ?_; rotate_left; focus (intro w' hSw; (try dsimp only at hSw); go_simp; first | done | with_reducible rfl); try simp only [Act.put, List.setIfInBounds_toArray, List.set_cons_zero, List.set_cons_succ])
            (refine wpAnyH_take (i := 8) (v := ?_) rfl (by kernel_rfl) (by kernel_rfl) (by kernel_rfl) (fun _ _ _ h => h) (Or.inl ⟨by rfl, ?_⟩) (by assumption) ?_; rotate_left; focus (intro w' hSw; (try dsimp only at hSw); go_simp; first | done | with_reducible rfl); try simp only [Act.put, List.setIfInBounds_toArray, List.set_cons_zero, List.set_cons_succ])
            (refine wpAnyH_take (i := 9) (v := ?_) rfl (by kernel_rfl) (by kernel_rfl) (by kernel_rfl) (fun _ _ _ h => h) (Or.inl ⟨by rfl, ?_⟩) (by assumption) ?_; rotate_left; focus (intro w' hSw; (try dsimp only at hSw); go_simp; first | done | with_reducible rfl); try simp only [Act.put, List.setIfInBounds_toArray, List.set_cons_zero, List.set_cons_succ])
            (refine wpAnyH_take (i := 10) (v := ?_) rfl (by kernel_rfl) (by kernel_rfl) (by kernel_rfl) (fun _ _ _ h => h) (Or.inl ⟨by rfl, ?_⟩) (by assumption) ?_; rotate_left; focus (intro w' hSw; (try dsimp only at hSw); go_simp; first | done | with_reducible rfl); try simp only [Act.put, List.setIfInBounds_toArray, List.set_cons_zero, List.set_cons_succ])
            (refine wpAnyH_take (i := 11) (v := ?_) rfl (by kernel_rfl) (by kernel_rfl) (by kernel_rfl) (fun _ _ _ h => h) (Or.inl ⟨by rfl, ?_⟩) (by assumption) ?_; rotate_left; focus (intro w' hSw; (try dsimp only at hSw); go_simp; first | done | with_reducible rfl); try simp only [Act.put, List.setIfInBounds_toArray, List.set_cons_zero, List.set_cons_succ])
            (refine wpAnyH_take (i := 12) (v := ?_) rfl (by kernel_rfl) (by kernel_rfl) (by kernel_rfl) (fun _ _ _ h => h) (Or.inl ⟨by rfl, ?_⟩) (by assumption) ?_; rotate_left; focus (intro w' hSw; (try dsimp only at hSw); go_simp; first | done | with_reducible rfl); try simp only [Act.put, List.setIfInBounds_toArray, List.set_cons_zero, List.set_cons_succ])
            (refine wpAnyH_take (i := 13) (v := ?_) rfl (by kernel_rfl) (by kernel_rfl) (by kernel_rfl) (fun _ _ _ h => h) (Or.inl ⟨by rfl, ?_⟩) (by assumption) ?_; rotate_left; focus (intro w' hSw; (try dsimp only at hSw); go_simp; first | done | with_reducible rfl); try simp only [Act.put, List.setIfInBounds_toArray, List.set_cons_zero, List.set_cons_succ])
            (refine wpAnyH_take (i := 14) (v := ?_) rfl (by kernel_rfl) (by kernel_rfl) (by kernel_rfl) (fun _ _ _ h => h) (Or.inl ⟨by rfl, ?_⟩) (by assumption) ?_; rotate_left; focus (intro w' hSw; (try dsimp only at hSw); go_simp; first | done | with_reducible rfl); try simp only [Act.put, List.setIfInBounds_toArray, List.set_cons_zero, List.set_cons_succ])
            (refine wpAnyH_take (i := 15) (v := ?_) rfl (by kernel_rfl) (by kernel_rfl) (by kernel_rfl) (fun _ _ _ h => h) (Or.inl ⟨by rfl, ?_⟩) (by assumption) ?_; rotate_left; focus (intro w' hSw; (try dsimp only at hSw); go_simp; first | done | with_reducible rfl); try simp only [Act.put, List.setIfInBounds_toArray, List.set_cons_zero, List.set_cons_succ])
            (refine wpAnyH_take (i := 17) (v := ?_) rfl (by kernel_rfl) (by kernel_rfl) (by kernel_rfl) (fun _ _ _ h => h) (Or.inl ⟨by rfl, ?_⟩) (by assumption) ?_; rotate_left; focus (intro w' hSw; (try dsimp only at hSw); go_simp; first | done | with_reducible rfl); try simp only [Act.put, List.setIfInBounds_toArray, List.set_cons_zero, List.set_cons_succ])
            (refine wpAnyH_take (i := 18) (v := ?_) rfl (by kernel_rfl) (by kernel_rfl) (by kernel_rfl) (fun _ _ _ h => h) (Or.inl ⟨by rfl, ?_⟩) (by assumption) ?_; rotate_left; focus (intro w' hSw; (try dsimp only at hSw); go_simp; first | done | with_reducible rfl); try simp only [Act.put, List.setIfInBounds_toArray, List.set_cons_zero, List.set_cons_succ])
            refine wpAnyH_ready (rs := [16]) (by kernel_rfl) (by simp) ?_
            refine AllReadyH.cons rfl (fun K hK => ?_) AllReadyH.nil
            go_simp
            refine hK.out _ _ ?_ (fun hHeld2 => ?_)
            · exact hHeld
            clear hK K hHeld2
            try simp only [Act.put, List.setIfInBounds_toArray, List.set_cons_zero, List.set_cons_succ]
            refine wpAnyH_ready (rs := [19]) (by kernel_rfl) (by simp) ?_
            refine AllReadyH.cons rfl (fun K hK => ?_) AllReadyH.nil
            go_simp
            refine (HPut.out _ (belDrew _)).mono ?_
            rintro e wP ⟨tv', T', rfl, hday5, hb5⟩
            obtain ⟨ua, un, uc, rfl, _⟩ := hday5.tours.open
            have b5 := bel2 (belDrew w7) hb5
            have HS5 := Lib.hid (And.intro (cell_below b5 c0) (And.intro (cell_below b5 c1) (And.intro (cell_below b5 c2) (And.intro (cell_below b5 c3) (And.intro (cell_below b5 c4) (And.intro (cell_below b5 c5) (And.intro (cell_below b5 p0) (And.intro (cell_below b5 f0) (And.intro (cell_below b5 s0) (cell_below b5 s1))))))))))
            have t09 := cell_below b5 Ht0.out
            have t19 := frozen_below b5 Hg7.out Ht1.out
            have HF := Lib.hid (And.intro ((Hs7.out.next (Nat.le_of_lt Hg7.out) b5).store hXn hday5) (vis_store (Hv7.out.below b5) t09 (.slice ua un uc)))
            have HS6 := Lib.hid (keep_store HS5.out t09 (.slice ua un uc) (by have := Hgr.out; omega) (by have := Hgr.out; omega))
            clear hday5 hb5
            first | (go_wp2_with fail; done) | (go_wp2_with fail) | skip
            refine hK.out _ _ ?_ (fun hHeld2 => ?_)
            · exact HS5.out
            clear hK K hHeld
            try simp only [Act.put, List.setIfInBounds_toArray, List.set_cons_zero, List.set_cons_succ]
            (refine wpAnyH_take (i := 20) (v := ?_) rfl (by kernel_rfl) (by kernel_rfl) (by kernel_rfl) (fun _ _ _ h => h) (Or.inl ⟨by rfl, ?_⟩) (by assumption) ?_; rotate_left; focus (intro w' hSw; (try dsimp only at hSw); go_simp; first | done | with_reducible rfl); try simp only [Act.put, List.setIfInBounds_toArray, List.set_cons_zero, List.set_cons_succ])
            refine wpAnyH_ready (rs := [21]) (by kernel_rfl) (by simp) ?_
            refine AllReadyH.cons rfl (fun K hK => ?_) AllReadyH.nil
            go_simp
            refine hK.out _ _ ?_ (fun hHeld => ?_)
            · exact HS6.out
            clear hK K hHeld hHeld2
            try simp only [Act.put, List.setIfInBounds_toArray, List.set_cons_zero, List.set_cons_succ]
            refine wpAnyH_done (by kernel_rfl) ?_ _
            clear c0 c1 c2 c3 c4 c5 p0 s0 s1 f0
            go_wp2_with fail
            go_roundw
            case rel => exact ⟨k2 + 1, _, _, _, _, rfl, rfl, by go_num, Nat.succ_le_of_lt hlt2, HF.out.1, HF.out.2⟩
            case measure => simp only [intOf]; first | exact meas_one hlt2 | exact meas_oneW hlt2 (by omega)
          · have hmm : 64 * k + k2 ≤ 64 * (k + 1) := by omega
            have Hmm := Lib.hid (Hsi.out.mono hmm)
            clear hst hvis
            go_wp2_with fail
            go_roundw
            case rel => exact ⟨k + 1, _, _, _, _, _, _, _, rfl, rfl, rfl, rfl, rfl, by go_num, Nat.succ_le_of_lt hlt, Hmm.out⟩
            case measure => simp only [intOf]; first | exact meas_one hlt | exact meas_oneW hlt (by omega)
    · have HF := Lib.hid ((Hso.out.done Hgr.out.1 r0 (.slice (some ⟨gd, 0, none⟩) n n)).days (by omega) (by omega))
      have Hbf := Lib.hid (Hb0o.out.setCell (p := ⟨gr, 0, none⟩) (by have h1 := Hgr.out; simp only []; omega) (.slice (some ⟨gd, 0, none⟩) n n))
      go_wp2_with fail
      have q0 : (wo.setCell ⟨gr, 0, none⟩ (.slice (some ⟨gd, 0, none⟩) n n)).cell? ⟨gr, 0, none⟩ = some (.slice (some ⟨gd, 0, none⟩) n n) := ((lies_one r0).set 0 _ (by simp)) 0 _ (by simp)
      refine bodyPost_ret (v := .tuple #[.agg #[.slice (some ⟨gd, 0, none⟩) n n], .bool true]) (by simp [results, Tryz.results20, go_sem, q0]) rfl ⟨_, _, _, true, rfl, fun _ => ⟨_, HF.out⟩, Hbf.out⟩
end

end Go.Proofs.YtnhcgpkcmfelkaaGreat
