/-
  My own work: the walk of BoundZero.
-/
import Derived.Test.YtnhcgpkcmfelkaaGreatBeC
import Derived.Test.YtnhcgpkcmfelkaaGreatMBd
import Derived.Test.YtnhcgpkcmfelkaaGreatMDual
import Derived.Test.YtnhcgpkcmfelkaaGreatBdG
import Derived.Test.YtnhcgpkcmfelkaaGreatAloneAC
import Derived.Deep.DrawnRows
namespace Go.Proofs.YtnhcgpkcmfelkaaGreat
open Go.RowKit
set_option linter.unusedVariables false
set_option maxRecDepth 100000
attribute [local go_sem ↓] Go.wp_at_zero Go.wp_at_succ

theorem priceAt_rep (n : Nat) (p d : Int) : priceAt (List.replicate n p) d = if 0 ≤ d ∧ d < n then p else 0 := by
  unfold priceAt
  by_cases h : 0 ≤ d ∧ d < n
  · rw [if_pos h, if_pos (by rw [List.length_replicate]; exact h)]
    simp [nth, show d.toNat < n by omega]
  · rw [if_neg h, if_neg (by rw [List.length_replicate]; exact h)]
theorem alone_mono {n : Nat} (cap : Int) (hn : n ≤ 20) {p : Int} (hp : 0 ≤ p ∧ p ≤ 1000) {C : Cu} (h : OkC n C) : aloneC n cap 0 C ≤ aloneC n cap p C := by
  unfold aloneC
  obtain ⟨V, b, hf⟩ := found_ex cap (List.replicate n p) hn h
  obtain ⟨W, c, hg⟩ := found_ex cap (List.replicate n 0) hn h
  refine (found_cheaper hn (fun x hx => by rw [List.eq_of_mem_replicate hx]; omega) h (fun d => ?_) hf hg).2.1
  rw [priceAt_rep, priceAt_rep]
  split <;> omega
theorem nth_rep (k : Nat) (j : Nat) : nth (List.replicate k (0 : Int)) j = 0 := by
  by_cases h : j < k <;> simp [nth, h]
theorem zero_le {n : Nat} {cap : Int} {L : List Cu} {O I : List Int} (hI : OkI n L) (k : Nat) (hb : ∀ j, 0 ≤ nth O j ∧ nth O j ≤ 500 ∧ 0 ≤ nth I j ∧ nth I j ≤ 500) :
    0 ≤ valueT n cap L (List.replicate k 0) (List.replicate k 0) ∧ valueT n cap L (List.replicate k 0) (List.replicate k 0) ≤ valueT n cap L O I := by
  have hn : n ≤ 20 := by have := hI.n7; omega
  have hl := leastT_bd cap hn hI.len hI.cus
  have hp : ∀ i, 0 ≤ priceI2 O I i ∧ priceI2 O I i ≤ 1000 := fun i => by have := hb (i + 1); unfold priceI2; omega
  have hz : ∀ i, priceI2 (List.replicate k 0) (List.replicate k 0) i = 0 := fun i => by unfold priceI2; rw [nth_rep]; rfl
  unfold valueT
  have h1 := sumUpto_bd (fun i => aloneC n cap (priceI2 (List.replicate k 0) (List.replicate k 0) i) (nthC L i)) 1064000 L.length (fun i hi => by simp only [hz]; exact aloneC_bd cap hn (by omega) (hI.cus _ (nthC_mem hi)))
  have h2 := sumUpto_le (fun i => aloneC n cap (priceI2 (List.replicate k 0) (List.replicate k 0) i) (nthC L i)) (fun i => aloneC n cap (priceI2 O I i) (nthC L i)) L.length (fun i hi => by simp only [hz]; exact alone_mono cap hn (hp i) (hI.cus _ (nthC_mem hi)))
  have h3 : 0 ≤ (nth O 0 + nth I 0) * leastT n cap L := Int.mul_nonneg (by have := hb 0; omega) hl.1
  rw [nth_rep]
  simp only [Int.add_zero, Int.zero_mul]
  omega

/-- The prices of nothing, as far as they are made. -/
structure ZeroSt (t : Nat) (w4 : World) (k m : Nat) (ov iv : Value) (w : World) : Prop where
  blk : Blk2 w t ov iv
  o : Own w (t + 1) ov (List.replicate k 0)
  i : Own w (t + 1) iv (List.replicate m 0)
  ne : ∀ j, ov.ownBlock = some j → iv.ownBlock ≠ some j
  below : Below t w4 w
theorem ZeroSt.pushO {t k m g c : Nat} {w4 wo w5 : World} {ov iv : Value} (h : ZeroSt t w4 k m ov iv wo) (h1 : Own w5 (t + 1) (.slice (some ⟨g, 0, none⟩) (k + 1) c) (List.replicate k 0 ++ [0])) (hg : wo.grownBy w5 ov.ownBlock) (hat : ov.ownBlock = some g ∨ wo.heap.size ≤ g) :
    ZeroSt t w4 (k + 1) m (.slice (some ⟨g, 0, none⟩) (k + 1) c) iv (w5.setCell ⟨t, 0, none⟩ (.slice (some ⟨g, 0, none⟩) (k + 1) c)) := by
  obtain ⟨hI, hne⟩ := apart_push (n := k + 1) (c := c) h.o h.i h.ne hg hat
  have hb5 := h.blk.kept hg (h.o.not' (Nat.lt_succ_self t))
  obtain ⟨y0, y1, y2, y3⟩ := hb5.cells
  rw [← List.replicate_succ'] at h1
  refine ⟨⟨hb5.lies.set 0 _ (by simp), by rw [World.frozen?_setCell]; exact y2, by rw [World.frozen?_setCell]; exact y3⟩, h1.kept (grownBy_setCell w5 ⟨t, 0, none⟩ _) (Own.not h1 (Nat.lt_succ_self t)), hI.kept (grownBy_setCell w5 ⟨t, 0, none⟩ _) (Own.not hI (Nat.lt_succ_self t)), hne, ?_⟩
  exact (h.below.grown hg (Nat.le_of_lt h.blk.lt) (fun k hk => by have := (h.o.lt k hk).1; omega)).setCell (p := ⟨t, 0, none⟩) (Nat.le_refl _) _
theorem ZeroSt.pushI {t k m g c : Nat} {w4 wo w5 : World} {ov iv : Value} (h : ZeroSt t w4 k m ov iv wo) (h1 : Own w5 (t + 1) (.slice (some ⟨g, 0, none⟩) (m + 1) c) (List.replicate m 0 ++ [0])) (hg : wo.grownBy w5 iv.ownBlock) (hat : iv.ownBlock = some g ∨ wo.heap.size ≤ g) :
    ZeroSt t w4 k (m + 1) ov (.slice (some ⟨g, 0, none⟩) (m + 1) c) (w5.setCell ⟨t, 1, none⟩ (.slice (some ⟨g, 0, none⟩) (m + 1) c)) := by
  obtain ⟨hO, hne⟩ := apart_push (n := m + 1) (c := c) h.i h.o (fun j h1 h2 => h.ne j h2 h1) hg hat
  have hb5 := h.blk.kept hg (h.i.not' (Nat.lt_succ_self t))
  obtain ⟨y0, y1, y2, y3⟩ := hb5.cells
  rw [← List.replicate_succ'] at h1
  refine ⟨⟨hb5.lies.set 1 _ (by simp), by rw [World.frozen?_setCell]; exact y2, by rw [World.frozen?_setCell]; exact y3⟩, hO.kept (grownBy_setCell w5 ⟨t, 1, none⟩ _) (Own.not hO (Nat.lt_succ_self t)), h1.kept (grownBy_setCell w5 ⟨t, 1, none⟩ _) (Own.not h1 (Nat.lt_succ_self t)), fun j h1 h2 => hne j h2 h1, ?_⟩
  exact (h.below.grown hg (Nat.le_of_lt h.blk.lt) (fun k hk => by have := (h.i.lt k hk).1; omega)).setCell (p := ⟨t, 1, none⟩) (Nat.le_refl _) _

set_option maxRecDepth 100000 in
set_option maxHeartbeats 6400000 in
theorem boundZero_walk (i0 i1 i2 i3 : Int) (cv0 dv0 lv : Value) (L0 : List Cu) (D0 : List (List Int)) (l : List Int) (w : World) (a0 : (Lit.int .i64 i0).wf = true) (a1 : (Lit.int .i64 i1).wf = true) (a2 : (Lit.int .i64 i2).wf = true) (a3 : (Lit.int .i64 i3).wf = true) (hC0 : Custs w cv0 L0) (hL0 : ∀ C ∈ L0, WfC C) (hG0 : Grid w dv0 D0) (hD0 : ∀ r ∈ D0, ∀ x ∈ r, (Lit.int .i64 x).wf = true) (hl0 : Ints w lv l) :
    Calls Tryz.prog 6 #[.agg #[.int .i64 i0, .int .i64 i1, .int .i64 i2, .int .i64 i3, cv0, dv0], lv] w fun e w' => e = .returned (.bool true) ∧ Below w.heap.size w w' := by
  obtain ⟨w1, ew, hb1, hsz1, hx⟩ := box_inst w (.int .i64 i0) (.int .i64 i1) (.int .i64 i2) (.int .i64 i3) cv0 dv0
  obtain ⟨c0, c1, c2, c3, c4, c5⟩ := hx
  have Hgood := Lib.hid (goodInst_is i0 i1 i2 i3 cv0 dv0 L0 D0 w1 a0 a1 a2 a3 (hC0.below hb1) hL0 (hG0.below hb1) hD0)
  have Hew := Lib.hid ew
  have Hb1 := Lib.hid hb1
  have Hlv1 := Lib.hid (hl0.below hb1)
  have hsz : w.heap.size ≤ w1.heap.size := hb1.size
  obtain ⟨la, lln, llc, rfl, _⟩ := hl0.open
  clear ew hb1 hsz1 hC0 hG0 hL0 hD0 hl0
  go_enter Tryz.func6, Tryz.ntmps6
  go_upto_region 1 with (fail)
  rw [Hew.out]
  go_wp2_with fail
  refine Hgood.out.mono ?_
  rintro e w2 ⟨days, ve, cp, ln, cv, dv, L, D, rfl, hdays, hLn, hgood, hC, hG, hb2⟩
  obtain ⟨ca, cm, cc, rfl, hcm, _, _⟩ := hC.open
  obtain ⟨da, dm, dc, rfl, _, _, _⟩ := hG.open
  obtain ⟨w3, ew3, hb3, hsz3, hy⟩ := box_inst w2 (.int .i64 days) (.int .i64 ve) (.int .i64 cp) (.int .i64 ln) (.slice ca cm cc) (.slice da dm dc)
  have hD : ArcBd D := arcBd_of hgood.dist hgood.rows
  have HOk := Lib.hid (good_okI hgood)
  have hcp : 0 ≤ cp ∧ cp ≤ 40 := ⟨hgood.cp0, hgood.cp40⟩
  obtain ⟨n, hn⟩ : ∃ n, L.length + 1 = n := ⟨_, rfl⟩
  have hn7 : n ≤ 7 := by have := hgood.n6; omega
  have hnp : 0 < n := by omega
  have Hncm : Hid (n = cm + 1) := Lib.hid (by omega)
  have hcmL : Hid (L.length = cm) := Lib.hid hcm
  have HC := Lib.hid (hC.below hb3)
  have HG := Lib.hid (hG.below hb3)
  have Hn := Lib.hid hn
  have HD := Lib.hid hD
  have Hew3 := Lib.hid ew3
  have hb13 := bel2 hb2 hb3
  have HB := Lib.hid (Hb1.out.trans (hb13.mono hsz))
  have Hlv := Lib.hid (Hlv1.out.below hb13)
  have hsz23 : w.heap.size ≤ w3.heap.size := HB.out.size
  have hgylt : w2.heap.size < w3.heap.size := by omega
  have Hy := Lib.hid hy
  clear c0 c1 c2 c3 c4 c5 hdays hLn hgood hC hG hb2 hb3 hb13 ew3 hn hcm hsz3
  obtain ⟨c0, c1, c2, c3, c4, c5⟩ := hy
  have hhn : (n : Int) = (cm : Int) + 1 := by have := Hncm.out; omega
  have Hhn := Lib.hid hhn
  clear hhn
  obtain ⟨w4, ew4, hb4, hsz4, hp4⟩ := box_prices w3 (.slice none 0 0) (.slice none 0 0)
  have Hew4 := Lib.hid ew4
  have Hp4 := Lib.hid hp4
  have Hb4 := Lib.hid hb4
  have hgt : w2.heap.size < w3.heap.size := hgylt
  have Hy4 := Lib.hid (Hy.out.below hb4)
  have HB4 := Lib.hid (HB.out.trans (hb4.mono hsz23))
  have hszt : w.heap.size ≤ w3.heap.size := hsz23
  clear ew4 hp4 hb4 hsz4
  go_upto_region 2 with (fail)
  rw [Hew3.out]
  clear c0 c1 c2 c3 c4 c5
  go_upto_region 3 with (fail)
  rw [Hew4.out]
  generalize w2.heap.size = gy at *
  obtain ⟨t, het⟩ : ∃ t, t = w3.heap.size := ⟨_, rfl⟩
  rw [← het] at Hp4 hgt Hb4 hszt ⊢
  have Het := Lib.hid het
  clear het
  go_wp2_with fail
  go_loopw [7] (fun i wr => ∃ (k : Nat) (ov iv : Value), k ≤ n ∧ i = .int .i64 k ∧ ZeroSt t w3 k k ov iv wr) (fun i _ => n - (intOf i).toNat)
  case atStart => exact ⟨0, _, _, Nat.zero_le _, rfl, ⟨Hp4.out, Own.nil _ _, Own.nil _ _, (fun j h => by cases h), Hb4.out⟩⟩
  case round =>
    obtain ⟨k, ov, iv, hk, rfl, hz⟩ := hrel
    obtain ⟨wo, rfl⟩ : ∃ wo : World, wo = wr := ⟨_, rfl⟩
    have hx := Hy.out.below (show Below w3.heap.size w3 wo by rw [← Het.out]; exact hz.below)
    obtain ⟨c0, c1, c2, c3, c4, c5⟩ := hx
    obtain ⟨t0, t1, t2, t3⟩ := hz.blk.cells
    have Hz := Lib.hid hz
    by_cases hlt : k < n
    · have hi1 : (k : Int) ≤ (cm : Int) := by have := Hhn.out; omega
      have ht1 : t + 1 ≤ wo.heap.size := hz.blk.lt
      have hkl : Hid ((List.replicate k (0 : Int)).length + 1 ≤ 1000000000000) := Lib.hid (by rw [List.length_replicate]; omega)
      have Hlen : Hid ((List.replicate k (0 : Int)).length = k) := Lib.hid (by simp)
      clear hz
      go_wp2_with (at_builtin; refine wpList_pushAt rfl _ _ rfl wo (t + 1) ov (List.replicate k 0) 0 rfl rfl Hz.out.o hkl.out ht1 ?_)
      intro g5 c5' w5 hown5 hg5 hb5 hat5 hlt5
      have hz5 := Hz.out.pushO hown5 hg5 hat5
      have hblk5 := Hz.out.blk.kept hg5 (Hz.out.o.not' (Nat.lt_succ_self t))
      obtain ⟨y0, y1, y2, y3⟩ := hblk5.cells
      clear hown5 hg5 hb5 hat5 hlt5 hblk5 t0 t1 t2 t3 c0 c1 c2 c3 c4 c5
      go_upto_region 7 with fail
      obtain ⟨wp, ewp⟩ : ∃ wp, w5.setCell ⟨t, 0, none⟩ (.slice (some ⟨g5, 0, none⟩) (k + 1) c5') = wp := ⟨_, rfl⟩
      rw [ewp] at hz5 ⊢
      clear ewp y0 y1 y2 y3
      have hx := Hy.out.below (show Below w3.heap.size w3 wp by rw [← Het.out]; exact hz5.below)
      obtain ⟨c0, c1, c2, c3, c4, c5⟩ := hx
      obtain ⟨t0, t1, t2, t3⟩ := hz5.blk.cells
      have ht1 : t + 1 ≤ wp.heap.size := hz5.blk.lt
      have Hz5 := Lib.hid hz5
      clear hz5
      go_wp2_with (at_builtin; refine wpList_pushAt rfl _ _ rfl wp (t + 1) iv (List.replicate k 0) 0 rfl rfl Hz5.out.i hkl.out ht1 ?_)
      intro g6 c6' w6 hown6 hg6 hb6 hat6 hlt6
      have Hz6 := Lib.hid (Hz5.out.pushI hown6 hg6 hat6)
      have hblk6 := Hz5.out.blk.kept hg6 (Hz5.out.i.not' (Nat.lt_succ_self t))
      obtain ⟨y0, y1, y2, y3⟩ := hblk6.cells
      clear hown6 hg6 hb6 hat6 hlt6 hblk6 t0 t1 t2 t3 c0 c1 c2 c3 c4 c5
      go_wp2_with fail
      go_roundw
      case rel => exact ⟨k + 1, _, _, Nat.succ_le_of_lt hlt, by go_num, Hz6.out⟩
      case measure => simp only [intOf]; exact meas_lt hlt
    · skip
      have hkn' : n = k := by omega
      subst hkn'
      have hi1 : ¬ (n : Int) ≤ (cm : Int) := by have := Hhn.out; omega
      have hi2 : ¬ n ≤ cm := by have := Hncm.out; omega
      clear hk hlt
      have hb3o : Below w3.heap.size w3 wo := by rw [← Het.out]; exact hz.below
      have HCo := Lib.hid (HC.out.below hb3o)
      have HGo := Lib.hid (HG.out.below hb3o)
      have Hlvo := Lib.hid (Hlv.out.below hb3o)
      have Hyo := Lib.hid (Hy.out.below hb3o)
      have HBo := Lib.hid (HB.out.trans (hb3o.mono hsz23))
      have hszo : w.heap.size ≤ wo.heap.size := HBo.out.size
      obtain ⟨go, co, rfl⟩ := own_form hz.o (by simp) hnp
      obtain ⟨gi, ci, rfl⟩ := own_form hz.i (by simp) hnp
      have Hblk := Lib.hid hz.blk
      have HOz := Lib.hid hz.o.ints
      have HIz := Lib.hid hz.i.ints
      have gylt2 : gy < wo.heap.size := by have := hb3o.size; omega
      clear hz hb3o t0 t1 t2 t3
      go_upto_region 8 with fail
      have HN := Lib.hid (fun (W : World) (h : Below wo.heap.size wo W) => numbers_is days ve cp ln (.slice ca cm cc) (.slice da dm dc) (.slice la lln llc) L l n W (HCo.out.below h) (Hlvo.out.below h) Hn.out (by omega))
      have HF := Lib.hid (fun (W : World) (nv : Value) (h : Below wo.heap.size wo W) (hI : Ints W nv (numsL n l)) => refFit_is days ve cp ln (.slice ca cm cc) (.slice da dm dc) nv L D (numsL n l) n W (HCo.out.below h) (HGo.out.below h) hI Hn.out (by omega) (nums_len n l) HD.out)
      go_cut [8] (fun s wx => ∃ (tf : Nat) (ov9 iv9 : Value), s = .pointer (some ⟨tf, 0, none⟩) ∧ FitSt wo.heap.size wo tf ov9 iv9 (outL D n (inL D n (numsL n l))) (inL D n (numsL n l)) wx)
      case first =>
        have b0 := Below.refl wo.heap.size wo
        go_region_held3 (fun w' => w'.cell? ⟨gy, 0, none⟩ = some (.int .i64 days) ∧ w'.cell? ⟨gy, 1, none⟩ = some (.int .i64 ve) ∧ w'.cell? ⟨gy, 2, none⟩ = some (.int .i64 cp) ∧ w'.cell? ⟨gy, 3, none⟩ = some (.int .i64 ln) ∧ w'.cell? ⟨gy, 4, none⟩ = some (.slice ca cm cc) ∧ w'.cell? ⟨gy, 5, none⟩ = some (.slice da dm dc))
          (first | go_keep | exact six_below b5 ⟨c0, c1, c2, c3, c4, c5⟩ | exact six_below b6 ⟨c0, c1, c2, c3, c4, c5⟩ | exact six_below (b5.alloc b5.size _) ⟨c0, c1, c2, c3, c4, c5⟩ | exact six_below (b6.alloc b6.size _) ⟨c0, c1, c2, c3, c4, c5⟩ | exact six_below (b6.drew) ⟨c0, c1, c2, c3, c4, c5⟩ | exact six_below (b5.drew) ⟨c0, c1, c2, c3, c4, c5⟩ | exact six_below (fitSt_store hQ6 b6 (by first | exact Nat.le_refl _ | exact b5.size) e9 n9.1 n9.2).below ⟨c0, c1, c2, c3, c4, c5⟩)
          (first
            | (go_at_call 9; refine (HN.out _ ?_).mono ?_; (first | exact b0 | exact belDrew wo | exact bel2 (belDrew wo) (belAlloc _ _) | exact bel2 (belAlloc wo _) (belDrew _)); rintro e wN ⟨nv, rfl, hN5, hb5⟩; have hI5 := hN5.ints; (first | have b5 := bel2 b0 hb5 | have b5 := bel2 (belDrew wo) hb5 | have b5 := bel2 (bel2 (belDrew wo) (belAlloc _ _)) hb5 | have b5 := bel2 (bel2 (belAlloc wo _) (belDrew _)) hb5); (first | (have e9 := (Blk2.new wo _ _ _).drew.below hb5; have x4 := e9.lt) | skip))
            | (go_at_call 8; refine (HF.out _ _ ?_ ?_).mono ?_; (first | exact b5 | exact bel2 b5 (belAlloc _ _) | exact bel2 b5 (belDrew _)); (first | exact hI5 | exact hI5.below (belAlloc _ _) | exact hI5.below (belDrew _)); rintro e wF ⟨ov9, iv9, rfl, hP6, hb6⟩; obtain ⟨go9, co9, gi9, ci9, rfl, rfl⟩ := hP6.form (outL_len _ _ _) (inL_len _ _ _) hnp; (first | have b6 := bel2 b5 hb6 | have b6 := bel2 (bel2 b5 (belAlloc _ _)) hb6 | have b6 := bel2 (bel2 b5 (belDrew _)) hb6); have hQ6 := hP6.mono (show wo.heap.size ≤ _ by first | exact b5.size | exact (bel2 b5 (belAlloc _ _)).size | exact (bel2 b5 (belDrew _)).size);
                (first | (have n9 := ownP_low (t := wo.heap.size) hP6 x4; have e9 := e9.below hb6; obtain ⟨y0, y1, y2, y3⟩ := e9.cells; have y4 := e9.lt) | (have n9 := ownP_low (t := wN.heap.size) hP6 (by simp); have e9 := (Blk2.new wN _ _ _).below hb6; obtain ⟨y0, y1, y2, y3⟩ := e9.cells; have y4 := e9.lt) | skip)))
        all_goals
          go_wp2_with fail
          go_meet
          first
            | exact ⟨_, _, _, rfl, fitSt_alloc b6.size hQ6 b6 _⟩
            | exact ⟨_, _, _, rfl, (fitSt_alloc b6.size hQ6 b6 _).drew⟩
            | exact ⟨_, _, _, rfl, fitSt_store hQ6 b6 (by first | exact Nat.le_refl _ | exact b5.size) e9 n9.1 n9.2⟩
            | exact ⟨_, _, _, rfl, (fitSt_store hQ6 b6 (by first | exact Nat.le_refl _ | exact b5.size) e9 n9.1 n9.2).drew⟩
      case rest =>
      obtain ⟨tf, ov9, iv9, rfl, hs⟩ := hcut
      obtain ⟨w6, rfl⟩ : ∃ w6 : World, w6 = wc := ⟨_, rfl⟩
      obtain ⟨go9, co9, gi9, ci9, rfl, rfl⟩ := hs.own.form (outL_len _ _ _) (inL_len _ _ _) hnp
      obtain ⟨s0, s1, _, _⟩ := hs.blk.cells
      have hb36 := hs.below
      have Hb36 := Lib.hid hb36
      have HB6 := Lib.hid (HBo.out.trans (hb36.mono hszo))
      have hsz6 : w.heap.size ≤ w6.heap.size := HB6.out.size
      have HO := Lib.hid hs.own.1.ints
      have HI := Lib.hid hs.own.2.1.ints
      have hnO : (outL D n (inL D n (numsL n l))).length = L.length + 1 := by rw [outL_len, Hn.out]
      have hnI : (inL D n (numsL n l)).length = L.length + 1 := by rw [inL_len, Hn.out]
      have hnZ : (List.replicate n (0 : Int)).length = L.length + 1 := by rw [List.length_replicate, Hn.out]
      have hbd : ∀ j, 0 ≤ nth (outL D n (inL D n (numsL n l))) j ∧ nth (outL D n (inL D n (numsL n l))) j ≤ 500 ∧ 0 ≤ nth (inL D n (numsL n l)) j ∧ nth (inL D n (numsL n l)) j ≤ 500 := fun j => by
        have h1 := nth_out_bd HD.out n (numsL n l) j
        have h2 := nth_in_bd HD.out n (numsL n l) j
        omega
      have hbz : ∀ j, 0 ≤ nth (List.replicate n (0 : Int)) j ∧ nth (List.replicate n (0 : Int)) j ≤ 500 ∧ 0 ≤ nth (List.replicate n (0 : Int)) j ∧ nth (List.replicate n (0 : Int)) j ≤ 500 := fun j => by rw [nth_rep]; omega
      generalize outL D n (inL D n (numsL n l)) = O at *
      generalize inL D n (numsL n l) = I at *
      have HV0 := Lib.hid (fun (W : World) (h : Below w6.heap.size w6 W) => bdValue_is days ve cp ln (.slice ca cm cc) (.slice da dm dc) (.slice (some ⟨go, 0, none⟩) n co) (.slice (some ⟨gi, 0, none⟩) n ci) L (List.replicate n 0) (List.replicate n 0) W (HCo.out.below (bel2 hb36 h)) (HOz.out.below (bel2 hb36 h)) (HIz.out.below (bel2 hb36 h)) HOk.out (by omega) hnZ hnZ hbz)
      have HR0 := Lib.hid (fun (W : World) (h : Below w6.heap.size w6 W) => refValue18_is days ve cp ln (.slice ca cm cc) (.slice da dm dc) (.slice (some ⟨go, 0, none⟩) n co) (.slice (some ⟨gi, 0, none⟩) n ci) L (List.replicate n 0) (List.replicate n 0) W (HCo.out.below (bel2 hb36 h)) (HOz.out.below (bel2 hb36 h)) (HIz.out.below (bel2 hb36 h)) HOk.out (by omega) hnZ hnZ hbz)
      have HV1 := Lib.hid (fun (W : World) (h : Below w6.heap.size w6 W) => bdValue_is days ve cp ln (.slice ca cm cc) (.slice da dm dc) (.slice (some ⟨go9, 0, none⟩) n co9) (.slice (some ⟨gi9, 0, none⟩) n ci9) L O I W (HCo.out.below (bel2 hb36 h)) (HO.out.below h) (HI.out.below h) HOk.out (by omega) hnO hnI hbd)
      obtain ⟨hz1, hz2⟩ := zero_le (n := days) (cap := cp) HOk.out n hbd
      generalize valueT days cp L (List.replicate n 0) (List.replicate n 0) = ZT at *
      generalize valueT days cp L O I = VT at *
      have q1 : (ZT == ZT) = true := by simp
      have q2 : decide (0 ≤ ZT) = true := decide_eq_true hz1
      have q3 : decide (ZT ≤ VT) = true := decide_eq_true hz2
      have hx6 := Hyo.out.below hb36
      have Hx6 := Lib.hid hx6
      have hz6 := Hblk.out.below hb36
      have Hz6 := Lib.hid hz6
      have Hs0 := Lib.hid s0
      have Hs1 := Lib.hid s1
      clear hs HN HF hb36 hbd hbz hnO hnI hnZ c0 c1 c2 c3 c4 c5 hz1 hz2
      obtain ⟨c0, c1, c2, c3, c4, c5⟩ := hx6
      obtain ⟨t0, t1, _, _⟩ := hz6.cells
      clear hz6
      go_wp2_with fail
      refine (HV0.out _ (Below.refl _ _)).mono ?_
      rintro e w7 ⟨rfl, hb7⟩
      have HR7 := Lib.hid (fun (W : World) (h : Below w7.heap.size w7 W) => HR0.out W (bel2 hb7 h))
      have HV7 := Lib.hid (fun (W : World) (h : Below w7.heap.size w7 W) => HV1.out W (bel2 hb7 h))
      have hx7 := Hx6.out.below hb7
      have Hx7 := Lib.hid hx7
      have Hf0 := Lib.hid (cell_below hb7 Hs0.out)
      have Hf1 := Lib.hid (cell_below hb7 Hs1.out)
      clear c0 c1 c2 c3 c4 c5 t0 t1 s0 s1
      obtain ⟨c0, c1, c2, c3, c4, c5⟩ := hx7
      obtain ⟨t0, t1, _, _⟩ := (Hz6.out.below hb7).cells
      have HB7 := Lib.hid (HB6.out.trans (hb7.mono hsz6))
      have hsz7 : w.heap.size ≤ w7.heap.size := HB7.out.size
      clear hb7
      go_wp2_with fail
      refine (HR7.out _ (Below.refl _ _)).mono ?_
      rintro e w8 ⟨rfl, hb8⟩
      obtain ⟨d0, d1, d2, d3, d4, d5⟩ := Hx7.out.below hb8
      have v0 := cell_below hb8 Hf0.out
      have v1 := cell_below hb8 Hf1.out
      have Hb8 := Lib.hid hb8
      clear hb8 c0 c1 c2 c3 c4 c5 t0 t1
      go_wp2_with fail
      refine (HV7.out _ Hb8.out).mono ?_
      rintro e w9 ⟨rfl, hb9⟩
      have Hb9 := Lib.hid (bel2 Hb8.out hb9)
      clear hb9
      go_wp2_with fail
      refine (lives18_is _).mono ?_
      rintro e w10 ⟨rfl, hb10⟩
      have HBB := Lib.hid (HB7.out.trans ((bel2 Hb9.out hb10).mono hsz7))
      clear hb10
      go_wp2_with fail
      go_ret
      exact ⟨rfl, HBB.out⟩
end Go.Proofs.YtnhcgpkcmfelkaaGreat
