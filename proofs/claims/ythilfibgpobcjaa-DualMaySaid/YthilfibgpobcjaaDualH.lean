/-
  My own work: tranterref17.Fit: its contract.
-/
import Derived.Test.YthilfibgpobcjaaDualB
import Derived.Test.YthilfibgpobcjaaDualG
namespace Go.Proofs.Ythilfibgpobcjaa
open Go.RowKit
set_option linter.unusedVariables false
attribute [local go_sem ↓] Go.wp_at_zero Go.wp_at_succ

theorem vup_here (b : Nat) (f : Nat → Int) (v : Int) (k : Nat) (h : k = b) : vup b f v (k + 1) = vup b f v k := by rw [vup_succ, if_neg (by simp [h])]
theorem vup_less (b : Nat) (f : Nat → Int) (v : Int) (k : Nat) (h : ¬ k = b) (h2 : f k < vup b f v k) : vup b f v (k + 1) = f k := by rw [vup_succ, if_pos ⟨h, h2⟩]
theorem vup_more (b : Nat) (f : Nat → Int) (v : Int) (k : Nat) (h2 : ¬ f k < vup b f v k) : vup b f v (k + 1) = vup b f v k := by rw [vup_succ, if_neg (fun h => h2 h.2)]
theorem outL_take (D : List (List Int)) (n : Nat) (q : List Int) : outL D n q = (List.range n).map (outI D n q) := rfl
theorem inL_take (D : List (List Int)) (n : Nat) (l : List Int) : inL D n l = (List.range n).map (inI D n l) := rfl
theorem own_len {w : World} {B : Nat} {a : Option Addr} {n c : Nat} {xs : List Int} (h : Own w B (.slice a n c) xs) : xs.length = n := by
  obtain ⟨_, _, h1, _⟩ := h.ints
  simp only [Value.slice.injEq] at h1
  exact h1.2.1.symm
theorem own_slice {w : World} {B : Nat} {v : Value} {xs : List Int} (h : Own w B v xs) : ∃ a n c, v = .slice a n c := by
  obtain ⟨a, c, h1, _⟩ := h.ints
  exact ⟨a, _, c, h1⟩

set_option maxRecDepth 100000 in
set_option maxHeartbeats 6400000 in
theorem refFit_is (i0 i1 i2 i3 : Int) (cv dv lv : Value) (L : List Cu) (D : List (List Int)) (l : List Int) (n : Nat) (w : World) (hC : Custs w cv L) (hG : Grid w dv D) (hI : Ints w lv l) (hn : L.length + 1 = n) (hn2 : n ≤ 4096) (hl : l.length = n) (hD : ArcBd D) :
    Calls Try.prog 22 #[.agg #[.int .i64 i0, .int .i64 i1, .int .i64 i2, .int .i64 i3, cv, dv], lv] w (PriceOut w (outL D n (inL D n l)) (inL D n l)) := by
  obtain ⟨w1, ew, hb1, hsz1, hi⟩ := box_inst w (.int .i64 i0) (.int .i64 i1) (.int .i64 i2) (.int .i64 i3) cv dv
  obtain ⟨w2, ew2⟩ : ∃ w2, w1.alloc (.cells #[.slice none 0 0, .slice none 0 0] 31) = w2 := ⟨_, rfl⟩
  have hb2 : Below w1.heap.size w1 w2 := by rw [← ew2]; exact belAlloc _ _
  have hsz2 : w2.heap.size = w.heap.size + 1 + 1 := by rw [← ew2]; simp; omega
  have hlz : Blk2 w2 (w.heap.size + 1) (.slice none 0 0) (.slice none 0 0) := by rw [← ew2, ← hsz1]; exact Blk2.new _ _ _ _
  have hi := hi.below hb2
  obtain ⟨c0, c1, c2, c3, c4, c5⟩ := hi
  have hbb := bel2 hb1 hb2
  have hC2 := hC.below hbb
  obtain ⟨ca, cm, cc, rfl, hcm, _, _⟩ := hC2.open
  obtain ⟨w3, ew3⟩ : ∃ w3, w2.alloc (.cells #[.slice none 0 0, .slice none 0 0] 31) = w3 := ⟨_, rfl⟩
  have hb3 : Below w2.heap.size w2 w3 := by rw [← ew3]; exact belAlloc _ _
  have hblk : Blk2 w3 w2.heap.size (.slice none 0 0) (.slice none 0 0) := by rw [← ew3]; exact Blk2.new _ _ _ _
  have HG := Lib.hid (hG.below hbb)
  obtain ⟨la, lm, lc, rfl, hlm, _, hlc⟩ := (hI.below hbb).open
  have hlc' : ∀ k, k < lm → ∃ b o', la = some ⟨b, o', none⟩ ∧ b < w2.heap.size ∧ w2.cell? ⟨b, o' + k, none⟩ = some (.int .i64 (nth l k)) := fun k hk => by
    obtain ⟨b, o', e1, e2⟩ := hlc k hk
    exact ⟨b, o', e1, World.block_lt_of_cell? w2 _ e2, e2⟩
  have Hlc := Lib.hid hlc'
  have hlmn : lm = n := by omega
  subst hlmn
  have Hb := Lib.hid hbb
  have Hew := Lib.hid ew
  have Hew2 := Lib.hid ew2
  have Hew3 := Lib.hid ew3
  have Hlz := Lib.hid hlz
  have l0 : w.heap.size < w2.heap.size := by omega
  have l1 : w.heap.size + 1 < w2.heap.size := by omega
  have hnp : 0 < lm := by omega
  have Hl := Lib.hid hl
  have hn3 : (lm : Int) ≤ 4096 := by omega
  have hcm2 : cm ≤ 4096 := by omega
  have Hn2 := Lib.hid hn2
  have Hcn : Hid ((lm : Int) = (cm : Int) + 1) := Lib.hid (by omega)
  have hS0 : Hid (Blk2 w3 w2.heap.size (.slice none 0 0) (.slice none 0 0) ∧ Own w3 (w2.heap.size + 1) (.slice none 0 0) ((List.range 0).map (inI D lm l)) ∧ Below w2.heap.size w2 w3) := Lib.hid ⟨hblk, Own.nil _ _, hb3⟩
  clear ew ew2 ew3 hb1 hb2 hb3 hsz1 hsz2 hlz hn hC hG hI hl hn2 hC2 hcm hblk hlm hlc hlc' hbb
  go_enter Try.func22, Try.ntmps22
  go_upto_region 1 with (fail)
  rw [Hew.out, Hew2.out]
  generalize eg : w.heap.size = g at *
  have Heg := Lib.hid eg
  clear eg
  have Hbg : Hid (Below g w w2) := Lib.hid Hb.out
  go_upto_region 3 with (fail)
  rw [Hew3.out]
  rw [show Value.int .i64 ((cm : Int) + 1) = Value.int .i64 (lm : Int) by rw [Hcn.out]]
  generalize et : w2.heap.size = t at *
  have Het := Lib.hid et
  clear et
  go_wp2_with fail
  go_loopw [7, 8, 9] (fun b v a wr => ∃ (k : Nat) (x y iv : Value), b = .int .i64 k ∧ x = v ∧ y = a ∧ k ≤ lm ∧ Blk2 wr t (.slice none 0 0) iv ∧ Own wr (t + 1) iv ((List.range k).map (inI D lm l)) ∧ Below t w2 wr) (fun b _ _ _ => lm - (intOf b).toNat)
  case atStart => exact ⟨0, _, _, _, rfl, rfl, rfl, Nat.zero_le _, hS0.out.1, hS0.out.2.1, hS0.out.2.2⟩
  case round =>
    obtain ⟨k, x, y, iv, rfl, rfl, rfl, hk, hblk, hown, hb⟩ := hrel
    obtain ⟨wo, rfl⟩ : ∃ wo : World, wo = wr := ⟨_, rfl⟩
    obtain ⟨t0, t1, t2, t3⟩ := hblk.cells
    have lt := hblk.lt
    have Hblk := Lib.hid hblk
    have Hown := Lib.hid hown
    have Hbw := Lib.hid hb
    have d0 := cell_lt hb l0 c0
    have d1 := cell_lt hb l0 c1
    have d2 := cell_lt hb l0 c2
    have d3 := cell_lt hb l0 c3
    have d4 := cell_lt hb l0 c4
    have d5 := cell_lt hb l0 c5
    have HGo := Lib.hid (HG.out.below (by rw [Het.out]; exact hb))
    clear hblk hown
    by_cases hlt : k < lm
    · obtain ⟨lb, lo, rfl, hlb, f0⟩ := Hlc.out k hlt
      have f0r := cell_lt hb hlb f0
      have hi0 : (0 : Int) ≤ (k : Int) := by omega
      have hi1 : (k : Int) < (lm : Int) := by omega
      have Hfit := Lib.hid (vup_fit hD hlt l)
      generalize nth l k = X at *
      obtain ⟨V, hV⟩ : ∃ V, V = vat lm X := ⟨_, rfl⟩
      rw [← hV] at Hfit
      have HV : Hid (V = if lm = 1 then 0 else max X 0) := Lib.hid hV
      clear f0 hV hb
      go_upto_if 29 with fail
      go_cut [8] (fun s8 wx => s8 = .int .i64 (max X 0) ∧ wo = wx)
      case first =>
        by_cases hX : X < 0
        · have hX' : decide (X < 0) = true := by simpa using hX
          have hm : Hid (max X 0 = 0) := Lib.hid (by omega)
          clear hX
          rw [hX']
          go_wp2_with fail
          go_meet
          exact ⟨by rw [hm.out], rfl⟩
        · have hX' : decide (X < 0) = false := by simpa using hX
          have hm : Hid (max X 0 = X) := Lib.hid (by omega)
          clear hX
          rw [hX']
          go_wp2_with fail
          go_meet
          exact ⟨by rw [hm.out], rfl⟩
      case rest =>
        obtain ⟨rfl, rfl⟩ := hcut
        obtain ⟨M, hM⟩ : ∃ M, max X 0 = M := ⟨_, rfl⟩
        rw [hM] at HV ⊢
        clear hM
        go_upto_if 31 with fail
        go_cut [8] (fun s8 wx => s8 = .int .i64 V ∧ wo = wx)
        case first =>
          by_cases hn1 : lm = 1
          · have h1' : ((lm : Int) == 1) = true := by simp; omega
            have hm : Hid (V = 0) := Lib.hid (by rw [HV.out, if_pos hn1])
            clear hn1
            rw [h1']
            go_wp2_with fail
            go_meet
            exact ⟨by rw [hm.out], rfl⟩
          · have h1' : ((lm : Int) == 1) = false := by simp; omega
            have hm : Hid (V = M) := Lib.hid (by rw [HV.out, if_neg hn1])
            clear hn1
            rw [h1']
            go_wp2_with fail
            go_meet
            exact ⟨by rw [hm.out], rfl⟩
        case rest =>
          obtain ⟨rfl, rfl⟩ := hcut
          go_wp2_with fail
          go_loopw [8, 9] (fun v a wq => ∃ (j : Nat) (U : Int), a = .int .i64 j ∧ v = .int .i64 U ∧ U = vup k (fun a => arcI D a k) V j ∧ j ≤ lm ∧ Below wo.heap.size wo wq) (fun _ a _ => lm - (intOf a).toNat)
          case atStart => exact ⟨0, V, rfl, rfl, rfl, Nat.zero_le _, Below.refl _ _⟩
          case round =>
            obtain ⟨j, U, rfl, rfl, hU, hj, hbq⟩ := hrel
            have HU := Lib.hid hU
            clear hU
            by_cases hlj : j < lm
            · have hj1 : (j : Int) < (lm : Int) := by omega
              obtain ⟨q0, q1, q2, q3, q4, q5⟩ := six_below hbq ⟨d0, d1, d2, d3, d4, d5⟩
              by_cases hjk : j = k
              · have bne : ((j : Int) != (k : Int)) = false := by simp; omega
                have Hs := Lib.hid (vup_here k (fun a => arcI D a k) V j hjk)
                clear hjk
                go_wp2_with fail
                go_roundw
                case rel => exact ⟨j + 1, U, by go_num, rfl, by rw [Hs.out]; exact HU.out, by omega, hbq⟩
                case measure => simp [intOf]; omega
              · have bne : ((j : Int) != (k : Int)) = true := by simp; omega
                have Harc := Lib.hid (fun (W : World) (h : Below wr.heap.size wr W) => refArc_is i0 i1 i2 i3 (.slice ca cm cc) dv D j k W (HGo.out.below (bel2 hbq h)))
                have Hs1 : Hid (arcI D j k < U → arcI D j k = vup k (fun a => arcI D a k) V (j + 1)) := Lib.hid (fun h => (vup_less k (fun a => arcI D a k) V j hjk (by rw [← HU.out]; exact h)).symm)
                have Hs2 : Hid (¬ arcI D j k < U → U = vup k (fun a => arcI D a k) V (j + 1)) := Lib.hid (fun h => HU.out.trans (vup_more k (fun a => arcI D a k) V j (by rw [← HU.out]; exact h)).symm)
                generalize arcI D (j : Int) (k : Int) = A at *
                have b0 := Below.refl wr.heap.size wr
                clear hjk
                by_cases hA : A < U
                · have hA' : decide (A < U) = true := by simpa using hA
                  have H1 := Lib.hid (Hs1.out hA)
                  clear hA
                  go_wp2_with fail
                  refine (Harc.out _ b0).mono ?_
                  rintro e w5 ⟨rfl, hb5⟩
                  obtain ⟨s0, s1, s2, s3, s4, s5⟩ := six_below hb5 ⟨q0, q1, q2, q3, q4, q5⟩
                  go_wp2_with fail
                  refine (Harc.out _ hb5).mono ?_
                  rintro e w6 ⟨rfl, hb6⟩
                  have hb7 := bel2 hbq (bel2 hb5 hb6)
                  clear hb5 hb6
                  go_wp2_with fail
                  go_roundw
                  case rel => exact ⟨j + 1, A, by go_num, rfl, H1.out, by omega, hb7⟩
                  case measure => simp [intOf]; omega
                · have hA' : decide (A < U) = false := by simpa using hA
                  have H1 := Lib.hid (Hs2.out hA)
                  clear hA
                  go_wp2_with fail
                  refine (Harc.out _ b0).mono ?_
                  rintro e w5 ⟨rfl, hb5⟩
                  have hb7 := bel2 hbq hb5
                  clear hb5
                  go_wp2_with fail
                  go_roundw
                  case rel => exact ⟨j + 1, U, by go_num, rfl, H1.out, by omega, hb7⟩
                  case measure => simp [intOf]; omega
            · have hjl : j = lm := by omega
              subst hjl
              have HUi : Hid (U = inI D j l k) := Lib.hid (HU.out.trans Hfit.out)
              have Hst := Lib.hid (range_map_succ (inI D j l) k)
              rw [← HUi.out] at Hst
              have HownQ := Lib.hid (Hown.out.below hbq)
              have HblkQ := Lib.hid (Hblk.out.below hbq)
              obtain ⟨v0, v1, v2, v3⟩ := HblkQ.out.cells
              have ltq := HblkQ.out.lt
              have Hbq2 := Lib.hid (Hbw.out.trans (hbq.mono (by omega)))
              have hlen : Hid (((List.range k).map (inI D j l)).length + 1 ≤ 17592186044416) := Lib.hid (by have := Hn2.out; rw [List.length_map, List.length_range]; omega)
              have hlt1 : t + 1 ≤ wr.heap.size := by omega
              clear hlj hj hbq
              go_wp2_with (at_builtin; refine wpList_push rfl _ _ rfl wr (t + 1) iv ((List.range k).map (inI D j l)) U rfl rfl HownQ.out hlen.out hlt1 ?_)
              intro v' w5 hown5 g5 hb5
              rw [← Hst.out] at hown5
              obtain ⟨va, vn, vc, rfl⟩ := own_slice hown5
              have hne := HownQ.out.not' (Nat.lt_succ_self t)
              have hblk5 := HblkQ.out.kept g5 hne
              obtain ⟨y0, y1, y2, y3⟩ := hblk5.cells
              have Hblk5 := Lib.hid hblk5
              have Hown5 := Lib.hid hown5
              have Hb5 := Lib.hid (Hbq2.out.trans (hb5.mono (by omega)))
              clear hown5 g5 hb5 hblk5 hne v0 v1 v2 v3
              go_wp2_with fail
              go_roundw
              case rel =>
                refine ⟨k + 1, _, _, .slice va vn vc, by go_num, rfl, rfl, by omega, ⟨Hblk5.out.lies.set 1 _ (by simp), by rw [World.frozen?_setCell]; exact y2, by rw [World.frozen?_setCell]; exact y3⟩, Hown5.out.kept (grownBy_setCell w5 ⟨t, 1, none⟩ _) (Own.not Hown5.out (Nat.lt_succ_self t)), Hb5.out.setCell (p := ⟨t, 1, none⟩) (Nat.le_refl _) _⟩
              case measure => simp [intOf]; omega
    · have hkn : k = lm := by omega
      subst hkn
      have hI0 : Own wo (t + 1) iv (inL D k l) := Hown.out
      obtain ⟨gi, ci, rfl⟩ := own_form hI0 (inL_len _ _ _) hnp
      have hgi := hI0.lt gi rfl
      obtain ⟨hgi1, hgi2⟩ := hgi
      have HI0 := Lib.hid hI0
      have hgit : ¬ gi = t := by omega
      have hlto : t ≤ wo.heap.size := by omega
      clear hI0 hlt hk hb d0 d1 d2 d3 d4 d5
      go_wp2_with fail
      go_loopw [10, 11, 12, 13, 14] (fun a v s b kk wr => ∃ (j : Nat) (x1 x2 x3 x4 ov : Value), a = .int .i64 j ∧ x1 = v ∧ x2 = s ∧ x3 = b ∧ x4 = kk ∧ j ≤ k ∧ Blk2 wr t ov (.slice (some ⟨gi, 0, none⟩) k ci) ∧ Own wr wo.heap.size ov ((List.range j).map (outI D k (inL D k l))) ∧ wo.grownBy wr (some t)) (fun a _ _ _ _ _ => k - (intOf a).toNat)
      case atStart => exact ⟨0, _, _, _, _, _, rfl, rfl, rfl, rfl, rfl, Nat.zero_le _, Hblk.out, Own.nil _ _, ⟨rfl, rfl, rfl, Nat.le_refl _, fun _ _ _ => rfl⟩⟩
      case round =>
        obtain ⟨j, x1, x2, x3, x4, ov, rfl, rfl, rfl, rfl, rfl, hj, hblk, hown, hg⟩ := hrel
        obtain ⟨wp, rfl⟩ : ∃ wp : World, wp = wr := ⟨_, rfl⟩
        have hbr := Hbw.out.grown hg hlto (by intro x hx; simp at hx; omega)
        have d0 := cell_lt hbr l0 c0
        have d1 := cell_lt hbr l0 c1
        have d2 := cell_lt hbr l0 c2
        have d3 := cell_lt hbr l0 c3
        have d4 := cell_lt hbr l0 c4
        have d5 := cell_lt hbr l0 c5
        have HGp := Lib.hid (HG.out.below (by rw [Het.out]; exact hbr))
        have HIp := Lib.hid (own_ne HI0.out hg (by simp [Value.ownBlock]; omega))
        have Hblk2 := Lib.hid hblk
        have Hown2 := Lib.hid hown
        have Hg2 := Lib.hid hg
        have Hbr2 := Lib.hid hbr
        have hsg := hg.size
        obtain ⟨z0, z1, z2, z3⟩ := hblk.cells
        clear hblk hown hg hbr
        by_cases hlt : j < k
        · have hj1 : (j : Int) < (k : Int) := by omega
          go_wp2_with fail
          go_loopw [11, 12, 13, 14] (fun v s b kk wq => ∃ (m : Nat) (x : Value) (B : Int) (F : Bool), b = .int .i64 m ∧ x = kk ∧ v = .int .i64 B ∧ s = .bool F ∧ (B, F) = lup j (fun b => arcI D j b - nth (inL D k l) b) m ∧ m ≤ k ∧ Below wp.heap.size wp wq) (fun _ _ b _ _ => k - (intOf b).toNat)
          case atStart => exact ⟨0, _, 0, false, rfl, rfl, rfl, rfl, rfl, Nat.zero_le _, Below.refl _ _⟩
          case round =>
            obtain ⟨m, x, B, F, rfl, rfl, rfl, rfl, hbf, hm, hbq⟩ := hrel
            have Hbf := Lib.hid hbf
            clear hbf
            by_cases hlm : m < k
            · have hm0 : (0 : Int) ≤ (m : Int) := by omega
              have hm1 : (m : Int) < (k : Int) := by omega
              obtain ⟨q0, q1, q2, q3, q4, q5⟩ := six_below hbq ⟨d0, d1, d2, d3, d4, d5⟩
              have z1q := cell_below hbq z1
              obtain ⟨g9, c9, hv9, _, _, _, hcell⟩ := (HIp.out.below hbq).out (by rw [inL_len]; omega)
              simp only [Value.slice.injEq, Option.some.injEq, Addr.mk.injEq, and_true] at hv9
              obtain ⟨rfl, hv1, hv2⟩ := hv9
              obtain ⟨f0, _⟩ := hcell m (by rw [inL_len]; exact hlm)
              rw [Nat.zero_add] at f0
              have hA := hD j m
              obtain ⟨hA1, hA2⟩ := hA
              have hY := nth_in_bd hD k l m
              obtain ⟨hY1, hY2⟩ := hY
              have Harc := Lib.hid (fun (W : World) (h : Below wr.heap.size wr W) => refArc_is i0 i1 i2 i3 (.slice ca cm cc) dv D j m W (HGp.out.below (bel2 hbq h)))
              have hs0 : m = j → (B, F) = lup j (fun b => arcI D j b - nth (inL D k l) b) (m + 1) := fun h => by rw [lup_here _ _ _ h]; exact Hbf.out
              have hs1 : ¬ m = j → (F = false ∨ arcI D j m - nth (inL D k l) m < B) → (arcI D j m - nth (inL D k l) m, true) = lup j (fun b => arcI D j b - nth (inL D k l) b) (m + 1) := fun h h2 => by rw [lup_step _ _ _ h, ← Hbf.out, if_pos h2]
              have hs2 : ¬ m = j → ¬ (F = false ∨ arcI D j m - nth (inL D k l) m < B) → (B, F) = lup j (fun b => arcI D j b - nth (inL D k l) b) (m + 1) := fun h h2 => by rw [lup_step _ _ _ h, ← Hbf.out, if_neg h2]
              obtain ⟨K, hK⟩ : ∃ K, K = arcI D j m - nth (inL D k l) m := ⟨_, rfl⟩
              rw [← hK] at hs1 hs2
              have Hs0 := Lib.hid hs0
              have Hs1 := Lib.hid hs1
              have Hs2 := Lib.hid hs2
              generalize arcI D (j : Int) (m : Int) = A at *
              generalize nth (inL D k l) m = Y at *
              have hw1 : IntKind.i64.wrap (A - Y) = K := by rw [hK]; exact IntWalk.i64_in _ (by omega)
              have b0 := Below.refl wr.heap.size wr
              clear hcell hv1 hv2 hs0 hs1 hs2 hK
              have hcase : ((m = j ∧ ((j : Int) != (m : Int)) = false)) ∨ (¬ m = j ∧ ((j : Int) != (m : Int)) = true ∧ F = false) ∨ (¬ m = j ∧ ((j : Int) != (m : Int)) = true ∧ F = true ∧ decide (K < B) = true) ∨ (¬ m = j ∧ ((j : Int) != (m : Int)) = true ∧ F = true ∧ decide (K < B) = false) := by
                by_cases e : m = j
                · exact .inl ⟨e, by simp; omega⟩
                · have h1 : ((j : Int) != (m : Int)) = true := by simp; omega
                  cases F with
                  | false => exact .inr (.inl ⟨e, h1, rfl⟩)
                  | true =>
                    by_cases h2 : K < B
                    · exact .inr (.inr (.inl ⟨e, h1, rfl, by simpa using h2⟩))
                    · exact .inr (.inr (.inr ⟨e, h1, rfl, by simpa using h2⟩))
              go_wp2_with fail
              go_region_held3 (fun w' => w'.cell? ⟨g, 0, none⟩ = some (.int .i64 i0) ∧ w'.cell? ⟨g, 1, none⟩ = some (.int .i64 i1) ∧ w'.cell? ⟨g, 2, none⟩ = some (.int .i64 i2) ∧ w'.cell? ⟨g, 3, none⟩ = some (.int .i64 i3) ∧ w'.cell? ⟨g, 4, none⟩ = some (.slice ca cm cc) ∧ w'.cell? ⟨g, 5, none⟩ = some dv ∧
                  w'.cell? ⟨t, 1, none⟩ = some (.slice (some ⟨gi, 0, none⟩) k ci) ∧ w'.cell? ⟨gi, m, none⟩ = some (.int .i64 Y))
                (first | go_keep | exact ⟨cell_below b6 q0, cell_below b6 q1, cell_below b6 q2, cell_below b6 q3, cell_below b6 q4, cell_below b6 q5, cell_below b6 z1q, cell_below b6 f0⟩)
                (first | (go_at_call 23; refine (Harc.out _ ?_).mono ?_; (first | exact b0 | exact belDrew _); rintro e w6 ⟨rfl, hb6⟩; (first | have b6 := bel2 b0 hb6 | have b6 := bel2 (belDrew wr) hb6)))
              all_goals
                have hb7 := bel2 hbq b6
                have Hb7 : Hid (Below wp.heap.size wp w6 ∧ Below wp.heap.size wp w6.drew) := Lib.hid ⟨hb7, hb7.drew⟩
                clear b6 hb7 hbq b0 q0 q1 q2 q3 q4 q5 z1q f0 hw1
                rcases hcase with ⟨e, bne⟩ | ⟨e, bne, rfl⟩ | ⟨e, bne, rfl, bk⟩ | ⟨e, bne, rfl, bk⟩
                · have H1 := Lib.hid (Hs0.out e)
                  clear e
                  go_wp2_with fail
                  go_roundw
                  case rel => exact ⟨m + 1, _, B, F, by go_num, rfl, rfl, rfl, H1.out, by omega, (by first | exact Hb7.out.1 | exact Hb7.out.2)⟩
                  case measure => simp [intOf]; omega
                · have H1 := Lib.hid (Hs1.out e (.inl rfl))
                  clear e
                  go_wp2_with fail
                  go_roundw
                  case rel => exact ⟨m + 1, _, K, true, by go_num, rfl, rfl, rfl, H1.out, by omega, (by first | exact Hb7.out.1 | exact Hb7.out.2)⟩
                  case measure => simp [intOf]; omega
                · have H1 := Lib.hid (Hs1.out e (.inr (of_decide_eq_true bk)))
                  clear e
                  go_wp2_with fail
                  go_roundw
                  case rel => exact ⟨m + 1, _, K, true, by go_num, rfl, rfl, rfl, H1.out, by omega, (by first | exact Hb7.out.1 | exact Hb7.out.2)⟩
                  case measure => simp [intOf]; omega
                · have H1 := Lib.hid (Hs2.out e (by have := of_decide_eq_false bk; simp; omega))
                  clear e
                  go_wp2_with fail
                  go_roundw
                  case rel => exact ⟨m + 1, _, B, true, by go_num, rfl, rfl, rfl, H1.out, by omega, (by first | exact Hb7.out.1 | exact Hb7.out.2)⟩
                  case measure => simp [intOf]; omega
            · have hmk : m = k := by omega
              subst hmk
              have HB : Hid (B = outI D m (inL D m l) j) := Lib.hid (by have := Hbf.out; unfold outI leastI; rw [← this])
              have Hst := Lib.hid (range_map_succ (outI D m (inL D m l)) j)
              rw [← HB.out] at Hst
              have HownQ := Lib.hid (Hown2.out.below hbq)
              have HblkQ := Lib.hid (Hblk2.out.below hbq)
              obtain ⟨v0, v1, v2, v3⟩ := HblkQ.out.cells
              have ltq := HblkQ.out.lt
              have hszq := hbq.size
              have hszo : wo.heap.size ≤ wr.heap.size := by omega
              have Hgq := Lib.hid (grown_step Hg2.out (r := none) (grownBy_below hbq) (by simp))
              have hlen : Hid (((List.range j).map (outI D m (inL D m l))).length + 1 ≤ 17592186044416) := Lib.hid (by have := Hn2.out; rw [List.length_map, List.length_range]; omega)
              clear hlm hm hbq
              go_wp2_with (at_builtin; refine wpList_push rfl _ _ rfl wr wo.heap.size ov ((List.range j).map (outI D m (inL D m l))) B rfl rfl HownQ.out hlen.out hszo ?_)
              intro v' w5 hown5 g5 hb5
              rw [← Hst.out] at hown5
              obtain ⟨va, vn, vc, rfl⟩ := own_slice hown5
              have hne := HownQ.out.not' (show t < wo.heap.size by omega)
              have hblk5 := HblkQ.out.kept g5 hne
              obtain ⟨y0, y1, y2, y3⟩ := hblk5.cells
              have Hblk5 := Lib.hid hblk5
              have Hown5 := Lib.hid hown5
              have Hg5 := Lib.hid (grown_step Hgq.out g5 (fun x hx => (HownQ.out.lt x hx).1))
              have htwo : t < wo.heap.size := by omega
              clear hown5 g5 hb5 hblk5 hne v0 v1 v2 v3
              go_wp2_with fail
              go_roundw
              case rel =>
                exact ⟨j + 1, _, _, _, _, .slice va vn vc, by go_num, rfl, rfl, rfl, rfl, by omega, ⟨Hblk5.out.lies.set 0 _ (by simp), by rw [World.frozen?_setCell]; exact y2, by rw [World.frozen?_setCell]; exact y3⟩, Hown5.out.kept (grownBy_setCell w5 ⟨t, 0, none⟩ _) (Own.not Hown5.out htwo), grownBy_trans Hg5.out (grownBy_setCell w5 ⟨t, 0, none⟩ _)⟩
              case measure => simp [intOf]; omega
        · have hjk : j = k := by omega
          subst hjk
          obtain ⟨go, co, rfl⟩ := own_form Hown2.out (show ((List.range j).map (outI D j (inL D j l))).length = j by simp) hnp
          have hgo := Hown2.out.lt go rfl
          obtain ⟨hgo1, hgo2⟩ := hgo
          have hz := Hlz.out
          have hzl := (Hlz.out.lies.lower Hbr2.out (by omega : g + 1 < t))
          have Hzl := Lib.hid hzl
          have y0 := hzl.at 0 _ rfl
          have y1 := hzl.at 1 _ rfl
          have y2 := frozen_lt Hbr2.out (by omega : g + 1 < t) hz.f0
          have y3 := frozen_lt Hbr2.out (by omega : g + 1 < t) hz.f1
          clear hz hzl hlt hj
          go_wp2_with fail
          have q := set2 Hzl.out (.slice (some ⟨go, 0, none⟩) j co) (.slice (some ⟨gi, 0, none⟩) j ci)
          have q0 := q.at 0 _ rfl
          have q1 := q.at 1 _ rfl
          have hP : OwnP wp (t + 1) (.slice (some ⟨go, 0, none⟩) j co) (.slice (some ⟨gi, 0, none⟩) j ci) (outL D j (inL D j l)) (inL D j l) := ⟨Hown2.out.mono (by omega), HIp.out, fun x hx e => by simp [Value.ownBlock] at hx e; omega⟩
          refine bodyPost_ret (v := .agg #[.slice (some ⟨go, 0, none⟩) j co, .slice (some ⟨gi, 0, none⟩) j ci]) (by simp [results, Try.results22, go_sem, q0, q1]) rfl ⟨_, _, rfl, ?_, ?_⟩
          · rw [Heg.out]
            exact (hP.kept (grown2 wp (g + 1) _ _) (fun x hx => by cases hx; omega)).mono (by omega)
          · rw [Heg.out]
            exact Hbg.out.trans ((Hbr2.out.mono (by omega)).trans (below2 wp (g + 1) _ _ (by omega)))
end Go.Proofs.Ythilfibgpobcjaa
