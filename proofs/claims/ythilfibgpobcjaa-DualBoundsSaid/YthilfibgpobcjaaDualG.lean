/-
  My own work: tranterref17.Numbers, Same; tranterlaw17.size: their contracts.
-/
import Derived.Test.YthilfibgpobcjaaDualD
namespace Go.Proofs.Ythilfibgpobcjaa
open Go.RowKit
set_option linter.unusedVariables false

def numI (l : List Int) (k : Nat) : Int := (nth l k).tmod 1099511627776
def numsL (n : Nat) (l : List Int) : List Int := (List.range n).map (numI l)
theorem range_map_succ (f : Nat → Int) (k : Nat) : (List.range (k + 1)).map f = (List.range k).map f ++ [f k] := by rw [List.range_succ, List.map_append]; rfl
theorem numI_bd (l : List Int) (k : Nat) : -1099511627776 ≤ numI l k ∧ numI l k ≤ 1099511627776 := by
  unfold numI
  generalize nth l k = x
  have h1 := Int.natAbs_tmod x 1099511627776
  have h2 : x.natAbs % (1099511627776 : Int).natAbs < 1099511627776 := Nat.mod_lt _ (by decide)
  omega
theorem nums_bd (n : Nat) (l : List Int) (k : Nat) : -1099511627776 ≤ nth (numsL n l) k ∧ nth (numsL n l) k ≤ 1099511627776 := by
  unfold numsL
  by_cases h : k < n
  · rw [nth_map_range _ _ _ h]; exact numI_bd l k
  · rw [nth_ge (by simp; omega)]; omega
theorem nums_len (n : Nat) (l : List Int) : (numsL n l).length = n := by simp [numsL]

set_option maxRecDepth 100000 in
set_option maxHeartbeats 1600000 in
theorem numbers_is (i0 i1 i2 i3 : Int) (cv dv lv : Value) (L : List Cu) (l : List Int) (n : Nat) (w : World) (hC : Custs w cv L) (hI : Ints w lv l) (hn : L.length + 1 = n) (hn2 : n ≤ 4096) :
    Calls Try.prog 15 #[.agg #[.int .i64 i0, .int .i64 i1, .int .i64 i2, .int .i64 i3, cv, dv], lv] w fun e w' => ∃ v, e = .returned v ∧ Own w' w.heap.size v (numsL n l) ∧ Below w.heap.size w w' := by
  obtain ⟨w1, ew, hb1, hsz1, hx⟩ := box_inst w (.int .i64 i0) (.int .i64 i1) (.int .i64 i2) (.int .i64 i3) cv dv
  obtain ⟨ca, cm, cc, rfl, hcm, _, _⟩ := hC.open
  obtain ⟨la, lm, lc, rfl, hlm, _, hlc⟩ := (hI.below hb1).open
  have c4 := hx.c4
  have Hew := Lib.hid ew
  have Hlm := Lib.hid hlm
  have Hlc := Lib.hid hlc
  have hn' : n = cm + 1 := by omega
  have hcm2 : cm ≤ 4096 := by omega
  have hsz : w.heap.size ≤ w1.heap.size := hb1.size
  have l0 := World.block_lt_of_cell? w1 _ c4
  subst hn'
  clear ew hsz1 hx hC hI hlm hlc hcm hn hn2
  go_enter Try.func15, Try.ntmps15
  go_upto_region 1 with (fail)
  rw [Hew.out]
  go_wp2_with fail
  go_loopw [5, 6, 7] (fun v i u7 wr => ∃ (k : Nat) (x y : Value), i = .int .i64 k ∧ x = v ∧ y = u7 ∧ k ≤ cm + 1 ∧ Own wr w1.heap.size x ((List.range k).map (numI l)) ∧ Below w1.heap.size w1 wr) (fun _ i _ _ => cm + 1 - (intOf i).toNat)
  case atStart => exact ⟨0, _, _, rfl, rfl, rfl, Nat.zero_le _, Own.nil _ _, Below.refl _ _⟩
  case round =>
    obtain ⟨k, x, y, rfl, rfl, rfl, hk, hown, hb⟩ := hrel
    have c4r := cell_below hb c4
    have Hown := Lib.hid hown
    clear hown
    have hsz2 : w1.heap.size ≤ wr.heap.size := hb.size
    by_cases hlt : k ≤ cm
    · have Hst := Lib.hid (range_map_succ (numI l) k)
      have hi1 : (k : Int) ≤ (cm : Int) := by omega
      have hi0 : (0 : Int) ≤ (k : Int) := by omega
      by_cases hkl : k < lm
      · obtain ⟨ib, io, rfl, f0⟩ := Hlc.out k hkl
        have f0r := cell_below hb f0
        have hi2 : (k : Int) < (lm : Int) := by omega
        have hN : Hid (numI l k = (nth l k).tmod 1099511627776) := Lib.hid rfl
        have hNb := numI_bd l k
        rw [hN.out] at hNb
        rw [hN.out] at Hst
        generalize nth l k = X at *
        obtain ⟨V, hV⟩ : ∃ V, X.tmod 1099511627776 = V := ⟨_, rfl⟩
        rw [hV] at Hst
        clear f0 hNb
        go_wp2_with (at_builtin; refine wpList_push rfl _ _ rfl wr w1.heap.size x ((List.range k).map (numI l)) V rfl rfl Hown.out (by rw [List.length_map, List.length_range]; omega) hsz2 ?_)
        intro v' w5 hown5 g5 hb5
        rw [← Hst.out] at hown5
        have hb5' := hb.trans (hb5)
        clear g5 hb5 hb
        go_wp2_with fail
        go_roundw
        case rel => exact ⟨k + 1, _, _, by go_num, rfl, rfl, by omega, hown5, hb5'⟩
        case measure => simp [intOf]; omega
      · have hN : Hid (numI l k = 0) := Lib.hid (by unfold numI; rw [nth_ge (by rw [Hlm.out]; omega)]; rfl)
        rw [hN.out] at Hst
        have hkl' : decide (k < lm) = false := by simpa using hkl
        go_wp2_with (at_builtin; refine wpList_push rfl _ _ rfl wr w1.heap.size x ((List.range k).map (numI l)) 0 rfl rfl Hown.out (by rw [List.length_map, List.length_range]; omega) hsz2 ?_)
        intro v' w5 hown5 g5 hb5
        rw [← Hst.out] at hown5
        have hb5' := hb.trans (hb5)
        clear g5 hb5 hb
        go_wp2_with fail
        go_roundw
        case rel => exact ⟨k + 1, _, _, by go_num, rfl, rfl, by omega, hown5, hb5'⟩
        case measure => simp [intOf]; omega
    · have hkn : k = cm + 1 := by omega
      subst hkn
      have hd : decide (cm + 1 ≤ cm) = false := by simp
      go_wp2_with fail
      go_ret
      exact ⟨_, rfl, Hown.out.mono hsz, hb1.trans (hb.mono hsz)⟩

set_option maxRecDepth 100000 in
set_option maxHeartbeats 1600000 in
theorem sameP_is (ov iv ov' iv' : Value) (o i o' i' : List Int) (w : World) (h1 : Ints w ov o) (h2 : Ints w iv i) (h3 : Ints w ov' o') (h4 : Ints w iv' i') :
    Calls Try.prog 27 #[.agg #[ov, iv], .agg #[ov', iv']] w fun e w' => e = .returned (.bool (decide (o = o' ∧ i = i'))) ∧ Below w.heap.size w w' := by
  obtain ⟨w1, ew1, hb1, hsz1, p0, p1⟩ := box_price w ov iv
  obtain ⟨w2, ew2, hb2, hsz2, q0, q1⟩ := box_price w1 ov' iv'
  have hbb := bel2 hb1 hb2
  have p0 := cell_below hb2 p0
  have p1 := cell_below hb2 p1
  rw [hsz1] at q0 q1
  obtain ⟨oa, on, oc, rfl, hon, _, hoc⟩ := (h1.below hbb).open
  obtain ⟨ia, im, ic, rfl, him, _, hic⟩ := (h2.below hbb).open
  obtain ⟨oa', on', oc', rfl, hon', _, hoc'⟩ := (h3.below hbb).open
  obtain ⟨ia', im', ic', rfl, him', _, hic'⟩ := (h4.below hbb).open
  have Hon := Lib.hid hon
  have Him := Lib.hid him
  have Hon' := Lib.hid hon'
  have Him' := Lib.hid him'
  have Hoc := Lib.hid hoc
  have Hic := Lib.hid hic
  have Hoc' := Lib.hid hoc'
  have Hic' := Lib.hid hic'
  have Hew1 := Lib.hid ew1
  have Hew2 := Lib.hid ew2
  have Hbb := Lib.hid hbb
  have hsz : w.heap.size ≤ w2.heap.size := hbb.size
  clear ew1 ew2 hb1 hb2 hsz1 hsz2 h1 h2 h3 h4 hbb hon him hon' him' hoc hic hoc' hic'
  have hfalse : Hid (¬ (o = o' ∧ i = i') → decide (o = o' ∧ i = i') = false) := Lib.hid (fun h => decide_eq_false h)
  by_cases e1 : on = on'
  · by_cases e2 : im = im'
    · subst e1
      subst e2
      have b1 : ((on : Int) != (on : Int)) = false := by simp
      have b2 : ((im : Int) != (im : Int)) = false := by simp
      go_enter Try.func27, Try.ntmps27
      go_upto_region 1 with (fail)
      rw [Hew1.out, Hew2.out]
      generalize eg : w.heap.size = g at *
      have Heg := Lib.hid eg
      clear eg
      go_wp2_with fail
      go_loopw [5] (fun u wr => ∃ k : Nat, k ≤ on ∧ u = .int .i64 k ∧ (∀ j, j < k → nth o j = nth o' j) ∧ Below w2.heap.size w2 wr) (fun u _ => on - (intOf u).toNat)
      case atStart => exact ⟨0, Nat.zero_le _, rfl, fun j hj => by omega, Below.refl _ _⟩
      case round =>
        obtain ⟨k, hk, rfl, hall, hb⟩ := hrel
        have Hall := Lib.hid hall
        clear hall
        have r0 := cell_below hb p0
        have r1 := cell_below hb p1
        have s0 := cell_below hb q0
        have s1 := cell_below hb q1
        by_cases hlt : k < on
        · obtain ⟨b, o1, rfl, f0⟩ := Hoc.out k hlt
          obtain ⟨b', o1', rfl, f1⟩ := Hoc'.out k hlt
          have f0r := cell_below hb f0
          have f1r := cell_below hb f1
          have hi0 : (0 : Int) ≤ (k : Int) := by omega
          have hi1 : (k : Int) < (on : Int) := by omega
          clear f0 f1
          by_cases he : nth o k = nth o' k
          · have heq : (nth o k != nth o' k) = false := by simp [he]
            have He := Lib.hid he
            clear he
            go_wp2_with fail
            go_quiet (fail)
            go_wp2_with fail
            go_roundw
            case rel => exact ⟨k + 1, by omega, by go_num, fun j hj => by rcases Nat.lt_succ_iff_lt_or_eq.1 hj with h | rfl; exact Hall.out j h; exact He.out, below_drewN hb nq⟩
            case measure => simp [intOf]; omega
          · have heq : (nth o k != nth o' k) = true := by simp [he]
            have Hf := Lib.hid (hfalse.out (by rintro ⟨rfl, _⟩; exact he rfl))
            clear he
            go_wp2_with fail
            go_quiet (fail)
            go_wp2_with fail
            go_ret
            rw [Hf.out]
            exact ⟨rfl, by rw [Heg.out]; exact Hbb.out.trans ((below_drewN hb nq).mono hsz)⟩
        · have hkn : k = on := by omega
          subst hkn
          have hoo : Hid (o = o') := Lib.hid (ext_nth (by rw [Hon.out, Hon'.out]) (fun j hj => Hall.out j (by rw [Hon.out] at hj; exact hj)))
          obtain ⟨wo, rfl⟩ : ∃ wo : World, wo = wr := ⟨_, rfl⟩
          clear hlt hk
          go_wp2_with fail
          go_loopw [6] (fun u wr => ∃ m : Nat, m ≤ im ∧ u = .int .i64 m ∧ (∀ j, j < m → nth i j = nth i' j) ∧ Below w2.heap.size w2 wr) (fun u _ => im - (intOf u).toNat)
          case atStart => exact ⟨0, Nat.zero_le _, rfl, fun j hj => by omega, hb⟩
          case round =>
            obtain ⟨m, hm, rfl, hall2, hbq⟩ := hrel
            have Hall2 := Lib.hid hall2
            clear hall2 r0 r1 s0 s1
            have r0 := cell_below hbq p0
            have r1 := cell_below hbq p1
            have s0 := cell_below hbq q0
            have s1 := cell_below hbq q1
            by_cases hlt : m < im
            · obtain ⟨b, o1, rfl, f0⟩ := Hic.out m hlt
              obtain ⟨b', o1', rfl, f1⟩ := Hic'.out m hlt
              have f0r := cell_below hbq f0
              have f1r := cell_below hbq f1
              have hi0 : (0 : Int) ≤ (m : Int) := by omega
              have hi1 : (m : Int) < (im : Int) := by omega
              clear f0 f1
              by_cases he : nth i m = nth i' m
              · have heq : (nth i m != nth i' m) = false := by simp [he]
                have He := Lib.hid he
                clear he
                go_wp2_with fail
                go_quiet (fail)
                go_wp2_with fail
                go_roundw
                case rel => exact ⟨m + 1, by omega, by go_num, fun j hj => by rcases Nat.lt_succ_iff_lt_or_eq.1 hj with h | rfl; exact Hall2.out j h; exact He.out, below_drewN hbq nq⟩
                case measure => simp [intOf]; omega
              · have heq : (nth i m != nth i' m) = true := by simp [he]
                have Hf := Lib.hid (hfalse.out (by rintro ⟨_, rfl⟩; exact he rfl))
                clear he
                go_wp2_with fail
                go_quiet (fail)
                go_wp2_with fail
                go_ret
                rw [Hf.out]
                exact ⟨rfl, by rw [Heg.out]; exact Hbb.out.trans ((below_drewN hbq nq).mono hsz)⟩
            · have hmn : m = im := by omega
              subst hmn
              have Hf : Hid (decide (o = o' ∧ i = i') = true) := Lib.hid (decide_eq_true ⟨hoo.out, ext_nth (by rw [Him.out, Him'.out]) (fun j hj => Hall2.out j (by rw [Him.out] at hj; exact hj))⟩)
              go_wp2_with fail
              go_ret
              rw [Hf.out]
              exact ⟨rfl, by rw [Heg.out]; exact Hbb.out.trans (hbq.mono hsz)⟩
    · have Hf := Lib.hid (hfalse.out (by rintro ⟨_, rfl⟩; exact e2 (Him.out.symm.trans Him'.out)))
      subst e1
      have b1 : ((on : Int) != (on : Int)) = false := by simp
      have b2 : ((im : Int) != (im' : Int)) = true := by simp; omega
      go_enter Try.func27, Try.ntmps27
      go_upto_region 1 with (fail)
      rw [Hew1.out, Hew2.out]
      go_wp2_with fail
      go_ret
      rw [Hf.out]
      exact ⟨rfl, Hbb.out⟩
  · have Hf := Lib.hid (hfalse.out (by rintro ⟨rfl, _⟩; exact e1 (Hon.out.symm.trans Hon'.out)))
    have b1 : ((on : Int) != (on' : Int)) = true := by simp; omega
    go_enter Try.func27, Try.ntmps27
    go_upto_region 1 with (fail)
    rw [Hew1.out, Hew2.out]
    go_wp2_with fail
    go_ret
    rw [Hf.out]
    exact ⟨rfl, Hbb.out⟩

/-- Some number from 0 to 2^31. -/
def SizeOut (w : World) (e : Ending) (w' : World) : Prop := ∃ s : Int, e = .returned (.int .i64 s) ∧ 0 ≤ s ∧ s ≤ 2147483648 ∧ w = w'
theorem size_is (n : Int) (w : World) (hn : (Lit.int .i64 n).wf = true) : Calls Try.prog 26 #[.int .i64 n] w (SizeOut w) := by
  obtain ⟨h1, h2⟩ := wf_i64 hn
  by_cases h : n < 0
  · have hb1 := Int.emod_nonneg (-(n + 1)) (b := 2147483649) (by omega)
    have hb2 := Int.emod_lt_of_pos (-(n + 1)) (b := 2147483649) (by omega)
    go_enter Try.func26, Try.ntmps26
    go_wp2_with fail
    go_ret
    refine ⟨_, rfl, ?_, ?_, rfl⟩
    · rw [← Int.neg_tmod, Int.tmod_eq_emod_of_nonneg (by omega)]; exact hb1
    · rw [← Int.neg_tmod, Int.tmod_eq_emod_of_nonneg (by omega)]; omega
  · go_enter Try.func26, Try.ntmps26
    go_wp2_with fail
    go_ret
    refine ⟨_, rfl, ?_, ?_, rfl⟩ <;> omega
end Go.Proofs.Ythilfibgpobcjaa
