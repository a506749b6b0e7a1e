/-
  My own work: tranterref11.All: its contract.
-/
import Derived.Test.YtnhcgpkcmfelkaaGreatOwnU
import Derived.Test.YtnhcgpkcmfelkaaGreatAloneS
import Derived.Test.YtnhcgpkcmfelkaaGreatMAl
namespace Go.Proofs.YtnhcgpkcmfelkaaGreat
open Go.RowKit
set_option linter.unusedVariables false
set_option maxRecDepth 100000
attribute [local go_sem ↓] Go.wp_at_zero Go.wp_at_succ

/-- The visits of the patterns that may be carried. -/
def allP (dm cap : Int) (ps : List Nat) : List (List (Int × Int)) := (ps.filter fun p => decide ((onV dm p).length = 0) || decide (dm ≤ cap)).map (onV dm)
theorem allP_yes {dm cap : Int} {ps : List Nat} {k : Nat} (h : k < ps.length) (hc : (onV dm (nthN ps k)).length = 0 ∨ dm ≤ cap) : allP dm cap (ps.take (k + 1)) = allP dm cap (ps.take k) ++ [onV dm (nthN ps k)] := by
  unfold allP
  rw [List.take_succ_eq_append_getElem h, List.filter_append, nthN_lt h, List.map_append]
  rw [nthN_lt h] at hc
  have : ([ps[k]].filter fun p => decide ((onV dm p).length = 0) || decide (dm ≤ cap)) = [ps[k]] := by
    rw [List.filter_cons, if_pos (by simpa using hc)]; rfl
  rw [this]; rfl
theorem allP_no {dm cap : Int} {ps : List Nat} {k : Nat} (h : k < ps.length) (hc : ¬ ((onV dm (nthN ps k)).length = 0 ∨ dm ≤ cap)) : allP dm cap (ps.take (k + 1)) = allP dm cap (ps.take k) := by
  unfold allP
  rw [List.take_succ_eq_append_getElem h, List.filter_append, List.map_append]
  rw [nthN_lt h] at hc
  have : ([ps[k]].filter fun p => decide ((onV dm p).length = 0) || decide (dm ≤ cap)) = [] := by
    rw [List.filter_cons, if_neg (by simpa using hc)]; rfl
  rw [this]; simp
theorem allP_len (dm cap : Int) (ps : List Nat) : (allP dm cap ps).length ≤ ps.length := by
  unfold allP
  rw [List.length_map]
  exact List.length_filter_le _ _
/-- The visits of all fills that may be, of the first k sets. -/
def allS (st sz rt cap : Int) (n k : Nat) : List (List (Int × Int)) := ((List.range k).filter fun S => decide (OkTo st sz rt cap S n)).map fun S => visitsOf (fillQ st sz rt S n)
theorem allS_yes {st sz rt cap : Int} {n k : Nat} (h : OkTo st sz rt cap k n) : allS st sz rt cap n (k + 1) = allS st sz rt cap n k ++ [visitsOf (fillQ st sz rt k n)] := by
  unfold allS
  rw [List.range_succ, List.filter_append, List.map_append]
  have : ([k].filter fun S => decide (OkTo st sz rt cap S n)) = [k] := by rw [List.filter_cons, if_pos (by simpa using h)]; rfl
  rw [this]; rfl
theorem allS_no {st sz rt cap : Int} {n k : Nat} (h : ¬ OkTo st sz rt cap k n) : allS st sz rt cap n (k + 1) = allS st sz rt cap n k := by
  unfold allS
  rw [List.range_succ, List.filter_append, List.map_append]
  have : ([k].filter fun S => decide (OkTo st sz rt cap S n)) = [] := by rw [List.filter_cons, if_neg (by simpa using h)]; rfl
  rw [this]; simp
theorem allS_len (st sz rt cap : Int) (n k : Nat) : (allS st sz rt cap n k).length ≤ k := by
  unfold allS
  rw [List.length_map]
  have := List.length_filter_le (fun S => decide (OkTo st sz rt cap S n)) (List.range k)
  rwa [List.length_range] at this
def AllOut (w : World) (L : List (List (Int × Int))) (e : Ending) (w' : World) : Prop := ∃ v, e = .returned v ∧ OwnU w' w.heap.size v L ∧ Below w.heap.size w w'

set_option maxHeartbeats 3200000 in
theorem all1_is (dm : Int) (pt : Value) (rt sz st ru hd cap : Int) (n : Nat) (ps : List Nat) (w : World) (hp : Words w pt ps) (hps : ∀ p ∈ ps, p < 18446744073709551616) (hpl : ps.length ≤ 1000) :
    Calls Tryz.prog 61 #[.agg #[.int .i64 1, .int .i64 dm, pt, .int .i64 rt, .int .i64 sz, .int .i64 st, .int .i64 ru, .int .i64 hd], .int .i64 n, .int .i64 cap] w (AllOut w (allP dm cap ps)) := by
  obtain ⟨w1, ew, hb1, hsz1, hcu⟩ := box_cust w 1 dm pt rt sz st ru hd
  obtain ⟨a, m, c, rfl, hm, _, _, hc⟩ := (hp.below hb1).open
  have Hew := Lib.hid ew
  have Hc := Lib.hid hc
  have Hm := Lib.hid hm
  have Hps := Lib.hid hps
  have hm1000 : m ≤ 1000 := by omega
  have hsz : w.heap.size ≤ w1.heap.size := hb1.size
  obtain ⟨c0, c1, c2, c3, c4, c5, c6, c7⟩ := hcu
  clear ew hsz1 hp hps hc hm hpl
  go_enter Tryz.func61, Tryz.ntmps61
  go_upto_region 1 with (fail)
  rw [Hew.out]
  go_wp2_with fail
  go_loopw [7, 8, 9] (fun u i q wr => ∃ (k : Nat) (x y : Value), k ≤ m ∧ x = u ∧ y = q ∧ i = .int .i64 k ∧ OwnU wr w1.heap.size x (allP dm cap (ps.take k)) ∧ Below w1.heap.size w1 wr) (fun _ i _ _ => m - (intOf i).toNat)
  case atStart => exact ⟨0, _, _, Nat.zero_le _, rfl, rfl, rfl, OwnU.nil _ _, Below.refl _ _⟩
  case round =>
    obtain ⟨k, x, y, hk, rfl, rfl, rfl, hown, hb⟩ := hrel
    have Hown := Lib.hid hown
    have Hb := Lib.hid hb
    obtain ⟨wo, rfl⟩ : ∃ wo : World, wo = wr := ⟨_, rfl⟩
    have hszr : w1.heap.size ≤ wo.heap.size := hb.size
    obtain ⟨d0, d1, d2, d3, d4, d5, d6, d7⟩ : IsCust wo w.heap.size 1 dm (.slice a m c) rt sz st ru hd := IsCust.below ⟨c0, c1, c2, c3, c4, c5, c6, c7⟩ hb
    clear hown
    by_cases hlt : k < m
    · obtain ⟨b, o, rfl, hbl, f0⟩ := Hc.out k hlt
      have f0 := cell_below hb f0
      have hp64 := Hps.out _ (nthN_mem (show k < ps.length by rw [Hm.out]; exact hlt))
      have HPt := Lib.hid (fun (W : World) => refPattern_is 1 dm (.slice (some ⟨b, o, none⟩) m c) rt sz st ru hd (nthN ps k) W hp64)
      have Hyes := Lib.hid (fun (h : (onV dm (nthN ps k)).length = 0 ∨ dm ≤ cap) => allP_yes (ps := ps) (k := k) (by rw [Hm.out]; exact hlt) h)
      have Hno := Lib.hid (fun (h : ¬ ((onV dm (nthN ps k)).length = 0 ∨ dm ≤ cap)) => allP_no (ps := ps) (k := k) (by rw [Hm.out]; exact hlt) h)
      have Hlen : Hid ((allP dm cap (ps.take k)).length + 1 ≤ 1000000000000) := Lib.hid (by have h1 := allP_len dm cap (ps.take k); have h2 := List.length_take_le k ps; omega)
      generalize allP dm cap (ps.take k) = LL at *
      generalize onV dm (nthN ps k) = V at *
      generalize nthN ps k = p at *
      have hi0 : (0 : Int) ≤ (k : Int) := by omega
      have hi1 : (k : Int) < (m : Int) := by omega
      have b0 := Below.refl wo.heap.size wo
      clear hb
      go_upto_region 6 with fail
      go_cut [9] (fun s9 wx => ∃ q, q = s9 ∧ OwnV wx wo.heap.size q V ∧ Below wo.heap.size wo wx)
      case first =>
        go_region_held3 (fun w' => (w'.cell? ⟨w.heap.size, 0, none⟩ = some (.int .i64 1) ∧ w'.cell? ⟨w.heap.size, 1, none⟩ = some (.int .i64 dm) ∧ w'.cell? ⟨w.heap.size, 2, none⟩ = some (.slice (some ⟨b, o, none⟩) m c) ∧ w'.cell? ⟨w.heap.size, 3, none⟩ = some (.int .i64 rt) ∧ w'.cell? ⟨w.heap.size, 4, none⟩ = some (.int .i64 sz) ∧ w'.cell? ⟨w.heap.size, 5, none⟩ = some (.int .i64 st) ∧ w'.cell? ⟨w.heap.size, 6, none⟩ = some (.int .i64 ru) ∧ w'.cell? ⟨w.heap.size, 7, none⟩ = some (.int .i64 hd) ∧ w'.cell? ⟨b, o + k, none⟩ = some (.int .u64 (p : Int))))
          (first | go_keep | exact ⟨cell_below b5 d0, cell_below b5 d1, cell_below b5 d2, cell_below b5 d3, cell_below b5 d4, cell_below b5 d5, cell_below b5 d6, cell_below b5 d7, cell_below b5 f0⟩)
          (first
            | (go_at_call 88; refine (HPt.out _).mono ?_; rintro e w5 ⟨xv, rfl, hown5, hb5⟩; (first | have b5 := bel2 b0 hb5 | have b5 := bel2 (belDrew wo) hb5)))
        all_goals
          go_wp2_with fail
          go_meet
          first | exact ⟨_, rfl, hown5, b5⟩ | exact ⟨_, rfl, hown5.below (belDrew _), b5.drew⟩
      case rest =>
        obtain ⟨q, rfl, hq, hbc⟩ := hcut
        obtain ⟨w5, rfl⟩ : ∃ w5 : World, w5 = wc := ⟨_, rfl⟩
        obtain ⟨d0, d1, d2, d3, d4, d5, d6, d7⟩ : IsCust w5 w.heap.size 1 dm (.slice (some ⟨b, o, none⟩) m c) rt sz st ru hd := IsCust.below ⟨d0, d1, d2, d3, d4, d5, d6, d7⟩ hbc
        obtain ⟨qa, qn, qc, rfl, hqn, _, _⟩ := hq.vis.open
        have Hown5 := Lib.hid (Hown.out.below hbc)
        have Hb5 := Lib.hid (bel2 Hb.out hbc)
        have Hq := Lib.hid (hq.mono hszr)
        have hne : ∀ k', x.ownBlock = some k' → (Value.slice qa qn qc).ownBlock ≠ some k' := fun k' h1 h2 => by
          have := (Hown.out.lt k' h1).2
          have := (hq.lt k' h2).1
          omega
        have Hne := Lib.hid hne
        have hsz5 : w1.heap.size ≤ w5.heap.size := Hb5.out.size
        rw [hqn] at Hyes Hno
        clear hq hbc hne hqn
        have hcase : (((qn : Int) == 0) = true ∧ (qn = 0 ∨ dm ≤ cap)) ∨ (((qn : Int) == 0) = false ∧ decide (dm ≤ cap) = true ∧ (qn = 0 ∨ dm ≤ cap)) ∨ (((qn : Int) == 0) = false ∧ decide (dm ≤ cap) = false ∧ ¬ (qn = 0 ∨ dm ≤ cap)) := by
          by_cases h : qn = 0
          · exact .inl ⟨by simp; omega, .inl h⟩
          · by_cases h' : dm ≤ cap
            · exact .inr (.inl ⟨by simp; omega, by simpa using h', .inr h'⟩)
            · exact .inr (.inr ⟨by simp; omega, by simpa using h', by omega⟩)
        rcases hcase with ⟨q1, q2⟩ | ⟨q1, q2, q3⟩ | ⟨q1, q2, q3⟩
        · have Hst := Lib.hid (Hyes.out q2)
          clear q2
          go_wp2_with (at_builtin; refine wpList_pushU rfl _ _ rfl w5 w1.heap.size x LL (.slice qa qn qc) V rfl rfl rfl Hown5.out Hq.out Hne.out Hlen.out hsz5 ?_)
          intro g6 c6 w6 hown6 hg6 hb6 _ _
          rw [← Hst.out] at hown6
          have Hown6 := Lib.hid hown6
          have Hb6 := Lib.hid (Hb5.out.trans hb6)
          clear hg6 hb6 hown6
          go_wp2_with fail
          go_roundw
          case rel => exact ⟨k + 1, _, _, by omega, rfl, rfl, by go_num, Hown6.out, Hb6.out⟩
          case measure => simp [intOf]; omega
        · have Hst := Lib.hid (Hyes.out q3)
          clear q3
          go_wp2_with (at_builtin; refine wpList_pushU rfl _ _ rfl w5 w1.heap.size x LL (.slice qa qn qc) V rfl rfl rfl Hown5.out Hq.out Hne.out Hlen.out hsz5 ?_)
          intro g6 c6 w6 hown6 hg6 hb6 _ _
          rw [← Hst.out] at hown6
          have Hown6 := Lib.hid hown6
          have Hb6 := Lib.hid (Hb5.out.trans hb6)
          clear hg6 hb6 hown6
          go_wp2_with fail
          go_roundw
          case rel => exact ⟨k + 1, _, _, by omega, rfl, rfl, by go_num, Hown6.out, Hb6.out⟩
          case measure => simp [intOf]; omega
        · have Hst := Lib.hid (Hno.out q3)
          clear q3
          go_wp2_with fail
          go_roundw
          case rel => exact ⟨k + 1, _, _, by omega, rfl, rfl, by go_num, by rw [Hst.out]; exact Hown5.out, Hb5.out⟩
          case measure => simp [intOf]; omega
    · have Hall : Hid (ps.take k = ps) := Lib.hid (List.take_of_length_le (by rw [Hm.out]; omega))
      go_wp2_with fail
      go_ret
      exact ⟨_, rfl, by rw [← Hall.out]; exact Hown.out.mono hsz, hb1.trans (Hb.out.mono hsz)⟩

theorem two_mul_wrap {k : Nat} (h : k ≤ 40) : IntKind.u64.wrap (2 * ((2 ^ k : Nat) : Int)) = ((2 ^ (k + 1) : Nat) : Int) := by
  have h1 : 2 ^ (k + 1) ≤ 2 ^ 41 := Nat.pow_le_pow_right (by decide) (by omega)
  have h2 : (2 : Nat) ^ 41 = 2199023255552 := by decide
  have h3 : 2 ^ (k + 1) = 2 ^ k * 2 := Nat.pow_succ ..
  rw [IntWalk.u64_in _ (by omega)]
  omega

set_option maxHeartbeats 3200000 in
theorem all2_is (dm : Int) (pt : Value) (rt sz st ru hd cap : Int) (n : Nat) (w : World) (T : TankOk st rt sz ru hd) (hn : n ≤ 20) :
    Calls Tryz.prog 61 #[.agg #[.int .i64 2, .int .i64 dm, pt, .int .i64 rt, .int .i64 sz, .int .i64 st, .int .i64 ru, .int .i64 hd], .int .i64 n, .int .i64 cap] w (AllOut w (allS st sz rt cap n (2 ^ n))) := by
  obtain ⟨w1, ew, hb1, hsz1, hcu⟩ := box_cust w 2 dm pt rt sz st ru hd
  have Hew := Lib.hid ew
  have HT := Lib.hid T
  have hsz : w.heap.size ≤ w1.heap.size := hb1.size
  obtain ⟨c0, c1, c2, c3, c4, c5, c6, c7⟩ := hcu
  have HF := Lib.hid (fun (W : World) (S : Nat) (hS : S < 18446744073709551616) => refFilled_is 2 dm pt rt sz st ru hd cap n S W T hn hS)
  clear ew hsz1 T
  go_enter Tryz.func61, Tryz.ntmps61
  go_upto_region 1 with (fail)
  rw [Hew.out]
  go_wp2_with fail
  go_loopw [10, 11] (fun l d wr => ∃ (k : Nat) (P : Nat), k ≤ n ∧ d = .int .i64 k ∧ l = .int .u64 (P : Int) ∧ P = 2 ^ k ∧ wr = w1) (fun _ d _ => n - (intOf d).toNat)
  case atStart => exact ⟨0, 1, Nat.zero_le _, rfl, rfl, rfl, rfl⟩
  case round =>
    obtain ⟨k, P, hk, rfl, rfl, hP, rfl⟩ := hrel
    by_cases hlt : k < n
    · have hw := two_mul_wrap (show k ≤ 40 by omega)
      rw [← hP] at hw
      obtain ⟨P2, hP2⟩ : ∃ P2 : Nat, P2 = 2 ^ (k + 1) := ⟨_, rfl⟩
      rw [← hP2] at hw
      have HP2 := Lib.hid hP2
      have Hw := Lib.hid hw
      have hi1 : (k : Int) < (n : Int) := by omega
      clear hP hP2
      go_wp2_with fail
      go_roundw
      case rel => exact ⟨k + 1, P2, by omega, by go_num, by first | rfl | rw [Hw.out], HP2.out, by first | rfl | trivial⟩
      case measure => simp [intOf]; omega
    · have hkn : k = n := by omega
      subst hkn
      have hPb : P ≤ 1048576 := by
        rw [hP]
        have h1 : 2 ^ k ≤ 2 ^ 20 := Nat.pow_le_pow_right (by decide) hn
        have h2 : (2 : Nat) ^ 20 = 1048576 := by decide
        omega
      rw [← hP]
      obtain ⟨wo, rfl⟩ : ∃ wo : World, wo = wr := ⟨_, rfl⟩
      have HP := Lib.hid hP
      clear hP
      go_wp2_with fail
      go_loopw [7, 12] (fun u s wq => ∃ (j : Nat) (x : Value), j ≤ P ∧ x = u ∧ s = .int .u64 (j : Int) ∧ OwnU wq wo.heap.size x (allS st sz rt cap k j) ∧ Below wo.heap.size wo wq) (fun _ s _ => P - (intOf s).toNat)
      case atStart => exact ⟨0, _, Nat.zero_le _, rfl, rfl, OwnU.nil _ _, Below.refl _ _⟩
      case round =>
        obtain ⟨j, x, hj, rfl, rfl, hown, hb⟩ := hrel
        have Hown := Lib.hid hown
        have Hb := Lib.hid hb
        have hszr : wo.heap.size ≤ wr.heap.size := hb.size
        obtain ⟨d0, d1, d2, d3, d4, d5, d6, d7⟩ : IsCust wr w.heap.size 2 dm pt rt sz st ru hd := IsCust.below ⟨c0, c1, c2, c3, c4, c5, c6, c7⟩ hb
        clear hown
        by_cases hlj : j < P
        · have HF1 := Lib.hid (HF.out wr j (by omega))
          have Hyes := Lib.hid (fun h => allS_yes (st := st) (sz := sz) (rt := rt) (cap := cap) (n := k) (k := j) h)
          have Hno := Lib.hid (fun h => allS_no (st := st) (sz := sz) (rt := rt) (cap := cap) (n := k) (k := j) h)
          have Hlen : Hid ((allS st sz rt cap k j).length + 1 ≤ 1000000000000) := Lib.hid (by have := allS_len st sz rt cap k j; omega)
          generalize allS st sz rt cap k j = LL at *
          have hi1 : (j : Int) < (P : Int) := by omega
          have hw : IntKind.u64.wrap ((j : Int) + 1) = (j : Int) + 1 := IntWalk.u64_in _ (by omega)
          clear hb
          go_wp2_with fail
          refine HF1.out.mono ?_
          rintro e w5 ⟨qv, rfl, hq, hb5⟩
          have Hb5 := Lib.hid (bel2 Hb.out hb5)
          have Hown5 := Lib.hid (Hown.out.below hb5)
          have hsz5 : wo.heap.size ≤ w5.heap.size := Hb5.out.size
          by_cases hok : OkTo st sz rt cap j k
          · have Hq := Lib.hid (hq hok)
            have HVi := Lib.hid (refVisits_is qv (fillQ st sz rt j k) w5 Hq.out.ints (by rw [fillQ_len]; omega))
            have Hst := Lib.hid (Hyes.out hok)
            rw [decide_eq_true hok]
            generalize visitsOf (fillQ st sz rt j k) = V at *
            clear hok hq hb5
            go_wp2_with fail
            refine HVi.out.mono ?_
            rintro e w6 ⟨vv, rfl, hv, hb6⟩
            obtain ⟨va, vn, vc, rfl, _, _, _⟩ := hv.vis.open
            have Hb6 := Lib.hid (bel2 Hb5.out hb6)
            have Hown6 := Lib.hid (Hown5.out.below hb6)
            have Hv := Lib.hid (hv.mono hsz5)
            have hne : ∀ k', x.ownBlock = some k' → (Value.slice va vn vc).ownBlock ≠ some k' := fun k' h1 h2 => by
              have := (Hown5.out.lt k' h1).2
              have := (hv.lt k' h2).1
              omega
            have Hne := Lib.hid hne
            have hsz6 : wo.heap.size ≤ w6.heap.size := Hb6.out.size
            clear hv hb6 hne
            go_wp2_with (at_builtin; refine wpList_pushU rfl _ _ rfl w6 wo.heap.size x LL (.slice va vn vc) V rfl rfl rfl Hown6.out Hv.out Hne.out Hlen.out hsz6 ?_)
            intro g7 c7 w7 hown7 hg7 hb7 _ _
            rw [← Hst.out] at hown7
            have Hown7 := Lib.hid hown7
            have Hb7 := Lib.hid (Hb6.out.trans hb7)
            clear hg7 hb7 hown7
            go_wp2_with fail
            go_roundw
            case rel => exact ⟨j + 1, _, by omega, rfl, by first | go_num | rfl | rw [hw], Hown7.out, Hb7.out⟩
            case measure => simp [intOf]; omega
          · have Hst := Lib.hid (Hno.out hok)
            rw [decide_eq_false hok]
            clear hok hq hb5
            go_wp2_with fail
            go_roundw
            case rel => exact ⟨j + 1, _, by omega, rfl, by first | go_num | rfl | rw [hw], by rw [Hst.out]; exact Hown5.out, Hb5.out⟩
            case measure => simp [intOf]; omega
        · have hjP : j = P := by omega
          subst hjP
          go_wp2_with fail
          go_ret
          exact ⟨x, rfl, by rw [← HP.out]; exact Hown.out.mono hsz, hb1.trans (Hb.out.mono hsz)⟩
end Go.Proofs.YtnhcgpkcmfelkaaGreat
