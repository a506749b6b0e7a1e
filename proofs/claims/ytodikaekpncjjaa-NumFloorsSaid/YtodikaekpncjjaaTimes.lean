/-
  My own work: tranterref01.Times: its contract.
-/
import Derived.Test.YtodikaekpncjjaaBigD
import Derived.Test.YtodikaekpncjjaaTimesPl
import Derived.IntWalk
namespace Go.Proofs.Ytodikaekpncjjaa
open Go.RowKit
set_option linter.unusedVariables false

theorem own_zeros (w' : World) (B g N : Nat) (h : w'.ownsRow B 3 1 (.slice (some ⟨g, 0, none⟩) N N) N (madeCells #[Value.int .i64 0] N).toList) : Own w' B (.slice (some ⟨g, 0, none⟩) N N) (List.replicate N 0) := by
  unfold Own
  rw [List.length_replicate]
  rw [toList_madeCells_one] at h
  rw [List.map_replicate]
  exact h

set_option maxHeartbeats 6400000 in
theorem bigTimes_is (va vb : Value) (x y : Int) (L M : Nat) (w : World) (ha : IsBig w va x L) (hb : IsBig w vb y M) (hL : L ≤ 1000) (hM : M ≤ 1000) :
    Calls Try.prog 18 #[va, vb] w (AddOut w (x * y) (L + M + 1)) := by
  obtain ⟨dv, ds, rfl, hd, hdg, hnm, hv, hl⟩ := ha
  obtain ⟨dv', ds', rfl, hd', hdg', hnm', hv', hl'⟩ := hb
  obtain ⟨a, n, c, rfl, hn, _, hcell⟩ := hd.open
  obtain ⟨a', n', c', rfl, hn', _, hcell'⟩ := hd'.open
  have Hxy := Lib.hid (sg_mul x y)
  obtain ⟨w1, ew, hb1, hs1, c0, c1, f0, f1⟩ := box_two w (.slice a n c) (.bool (decide (x < 0))) 24
  obtain ⟨w2, ew2, hb2, hs2, d0, d1, _, _⟩ := box_two w1 (.slice a' n' c') (.bool (decide (y < 0))) 24
  obtain ⟨w3, ew3, hb3, hs3, e0, e1, k0, k1⟩ := box_two w2 (.slice none 0 0) (.bool false) 24
  have hbw2 := hb1.trans (hb2.mono hb1.size)
  have hbw3 := hbw2.trans (hb3.mono hbw2.size)
  have c0' := cell_below hb3 (cell_below hb2 c0)
  have c1' := cell_below hb3 (cell_below hb2 c1)
  have d0' := cell_below hb3 d0
  have d1' := cell_below hb3 d1
  have hs : w3.heap.size = w.heap.size + 3 := by omega
  rw [hs2, hs1] at e0 e1 k0 k1
  rw [hs1] at d0' d1'
  obtain ⟨_, _, _, he, _, _, hA⟩ := (hd.below hbw3).open
  simp only [Value.slice.injEq] at he
  obtain ⟨rfl, rfl, rfl⟩ := he
  obtain ⟨_, _, _, he, _, _, hB⟩ := (hd'.below hbw3).open
  simp only [Value.slice.injEq] at he
  obtain ⟨rfl, rfl, rfl⟩ := he
  have HA := Lib.hid hA
  have HB := Lib.hid hB
  have Hn := Lib.hid hn
  have Hn' := Lib.hid hn'
  have Hew := Lib.hid ew
  have Hew2 := Lib.hid ew2
  have Hew3 := Lib.hid ew3
  have Hdg := Lib.hid hdg
  have Hdg' := Lib.hid hdg'
  have Hvv := Lib.hid (And.intro hv hv')
  have hn1 : n ≤ 1000 := by omega
  have hn1' : n' ≤ 1000 := by omega
  have Hlen : Hid (n + n' + 1 ≤ L + M + 1) := Lib.hid (by omega)
  generalize hsx : decide (x < 0) = sx at *
  generalize hsy : decide (y < 0) = sy at *
  clear ew ew2 ew3 hd hd' hdg hnm hv hl hdg' hnm' hv' hl' hb1 hb2 hb3 hbw2 c0 c1 d0 d1 f0 f1 hs2 hs1 hs3 hsx hsy hn hn' hcell hcell' hA hB
  have Hb := Lib.hid hbw3
  have He := Lib.hid (And.intro e0 (And.intro e1 (And.intro k0 k1)))
  have Hs := Lib.hid hs
  clear hbw3 e0 e1 k0 k1 hs
  obtain ⟨N, hN⟩ : ∃ N : Nat, N = n + n' + 1 := ⟨_, rfl⟩
  have hNi : (n : Int) + (n' : Int) + 1 = (N : Int) := by omega
  have hN2 : N ≤ 2001 := by omega
  have HN := Lib.hid hN
  obtain ⟨ii, hi, hz, hsi, hby⟩ := info_parts info_int
  obtain ⟨w4, hmk, hown0, hg4⟩ := run_make_full (P := Try.prog) w3 w3.heap.size 22 3 ii (.int .i64 0) 1 Try.underlying22 hi hz hsi .i64 .i64 N (by rw [hby]; omega) (by simp only [maxLen]; omega) (Nat.le_refl _)
  have hown0' : w4.ownsRow w3.heap.size 3 1 (.slice (some ⟨w3.heap.size, 0, none⟩) N N) N (madeCells #[Value.int .i64 0] N).toList := by rw [Nat.mul_one] at hown0; exact hown0
  have Hown := Lib.hid (own_zeros _ _ _ _ hown0')
  have hb4 := (Below.refl w3.heap.size w3).grown hg4 (Nat.le_refl _) (by simp)
  clear hN hown0 hown0' hg4 hi hz hsi hby ii
  go_enter Try.func18, Try.ntmps18
  go_wp2_with fail
  rw [Hew.out, Hew2.out, Hew3.out]
  go_wp2_with fail
  rw [hmk]
  go_wp2_with fail
  have hlt3 : w.heap.size + 2 < w3.heap.size := by have := Hs.out; omega
  have Hmk := Lib.hid hmk
  clear hmk
  generalize eG : w3.heap.size = G at *
  have HG := Lib.hid eG
  clear eG
  generalize eg : w.heap.size = g at *
  have Heg := Lib.hid eg
  clear eg
  have HA' : Hid (∀ k, k < n → ∃ b o, a = some ⟨b, o, none⟩ ∧ b < G ∧ w3.cell? ⟨b, o + k, none⟩ = some (.int .i64 (nth ds k))) := Lib.hid (fun k hk => by
    obtain ⟨b, o, e1, e2⟩ := HA.out k hk
    exact ⟨b, o, e1, by rw [← HG.out]; exact World.block_lt_of_cell? w3 _ e2, e2⟩)
  have HB' : Hid (∀ k, k < n' → ∃ b o, a' = some ⟨b, o, none⟩ ∧ b < G ∧ w3.cell? ⟨b, o + k, none⟩ = some (.int .i64 (nth ds' k))) := Lib.hid (fun k hk => by
    obtain ⟨b, o, e1, e2⟩ := HB.out k hk
    exact ⟨b, o, e1, by rw [← HG.out]; exact World.block_lt_of_cell? w3 _ e2, e2⟩)
  have hl0 : (List.replicate N (0 : Int)).length = ds.length + ds'.length + 1 := by rw [List.length_replicate, HN.out, Hn.out, Hn'.out]
  have Hl0 := Lib.hid hl0
  clear hl0
  go_loopw [6] (fun i wr => ∃ (k : Nat) (outs : List Int), k ≤ n ∧ i = .int .i64 k ∧ Own wr G (.slice (some ⟨G, 0, none⟩) N N) outs ∧ Dg outs ∧ outs.length = ds.length + ds'.length + 1 ∧ dval outs = dval (ds.take k) * dval ds' ∧ Below G w3 wr) (fun i _ => n - (intOf i).toNat)
  case atStart => exact ⟨0, _, Nat.zero_le _, rfl, Hown.out, Dg.zeros _, Hl0.out, by rw [dval_zeros]; simp [dval], hb4⟩
  case round =>
    obtain ⟨k, outs, hk, rfl, hown, hdgo, hlo, hvo, hb⟩ := hrel
    have c0 := cell_lt hb (by omega) c0'
    have c1 := cell_lt hb (by omega) c1'
    have d0 := cell_lt hb (by omega) d0'
    have d1 := cell_lt hb (by omega) d1'
    have Ho := Lib.hid (And.intro hown (And.intro hdgo (And.intro hlo hvo)))
    clear hown hdgo hlo hvo
    by_cases hlt : k < n
    · go_wp2_with fail
      obtain ⟨wo, hwo⟩ : ∃ wo : World, wo = wr := ⟨_, rfl⟩
      subst hwo
      go_loopw [7, 8] (fun cy i wr => ∃ (q : Nat) (outs : List Int) (c : Int), q ≤ n' + 1 ∧ i = .int .i64 q ∧ cy = .int .i64 c ∧ Own wr G (.slice (some ⟨G, 0, none⟩) N N) outs ∧ TIn ds ds' outs k q c ∧ Below G w3 wr) (fun _ i _ => n' + 1 - (intOf i).toNat)
      case atStart => exact ⟨0, outs, 0, Nat.zero_le _, rfl, rfl, Ho.out.1, TIn.start Ho.out.2.1 Ho.out.2.2.1 Ho.out.2.2.2, hb⟩
      case round =>
        obtain ⟨q, outs2, cy, hq, rfl, rfl, hown2, ht, hb2⟩ := hrel
        clear c0 c1 d0 d1 hb
        have c0 := cell_lt hb2 (by omega) c0'
        have c1 := cell_lt hb2 (by omega) c1'
        have d0 := cell_lt hb2 (by omega) d0'
        have d1 := cell_lt hb2 (by omega) d1'
        have hcy0 := ht.c0
        have hcy1 := ht.c1
        have Hq : Hid (0 < cy → q ≤ n') := Lib.hid (fun h => by have := ht.carry Hdg.out Hdg'.out (by rw [Hn.out]; exact hlt) h; rw [Hn'.out] at this; exact this)
        have hlen2 : Hid (outs2.length = N) := Lib.hid (by rw [ht.len, HN.out, Hn.out, Hn'.out])
        have hbA := nth_dg Hdg.out k
        have hbB := nth_dg Hdg'.out q
        obtain ⟨b, o, rfl, hbG, hA0⟩ := HA'.out k hlt
        have hA1 := cell_lt hb2 hbG hA0
        clear hA0
        have Ht := Lib.hid ht
        have Hown2 := Lib.hid hown2
        clear ht hown2
        by_cases h1 : q < n'
        · have hin : k + q < N := by rw [HN.out]; omega
          obtain ⟨g2, c2, he, _, _, _, hcells⟩ := Hown2.out.out (by rw [hlen2.out]; omega)
          simp only [Value.slice.injEq, Option.some.injEq, Addr.mk.injEq, and_true] at he
          obtain ⟨rfl, hn2, hc2⟩ := he
          clear hn2 hc2
          obtain ⟨hO, hF⟩ := hcells (k + q) (by rw [hlen2.out]; exact hin)
          obtain ⟨b', o', rfl, hbG', hB0⟩ := HB'.out q h1
          have hB1 := cell_lt hb2 hbG' hB0
          have hbO := nth_dg Ht.out.dg (k + q)
          obtain ⟨O, hO'⟩ : ∃ O, O = nth outs2 (k + q) := ⟨_, rfl⟩
          obtain ⟨A, hA'⟩ : ∃ A, A = nth ds k := ⟨_, rfl⟩
          obtain ⟨B, hB'⟩ : ∃ B, B = nth ds' q := ⟨_, rfl⟩
          rw [← hO'] at hO hbO
          rw [← hA'] at hA1 hbA
          rw [← hB'] at hB1 hbB
          have HO' := Lib.hid hO'
          have HA2 := Lib.hid hA'
          have HB2 := Lib.hid hB'
          clear hO' hA' hB' hB0 hcells
          rw [Nat.zero_add] at hO hF
          have hst := Ht.out.step (v := O + cy + A * B) Hdg.out Hdg'.out (by rw [Hn.out]; exact hlt) (by rw [Hn'.out]; omega) (by rw [HO'.out, HA2.out, HB2.out])
          obtain ⟨hv0, hv1, ht3⟩ := hst
          have Ht3 := Lib.hid ht3
          have Hown3 : Hid (∀ nq, Own ((wr.drewN nq).setCell ⟨G, k + q, none⟩ (.int .i64 ((O + cy + A * B) % 65536))) G (.slice (some ⟨G, 0, none⟩) N N) (outs2.set (k + q) ((O + cy + A * B) % 65536))) := Lib.hid (fun nq => by
            have h : Own (wr.drewN nq) G (.slice (some ⟨G, 0, none⟩) N N) outs2 := Hown2.out
            have h2 := h.set (k + q) ((O + cy + A * B) % 65536) (by rw [hlen2.out]; exact hin)
            rw [Nat.zero_add] at h2
            exact h2)
          clear ht3
          obtain ⟨hO0, hO1⟩ := hbO
          obtain ⟨hA0, hA3⟩ := hbA
          obtain ⟨hB0, hB3⟩ := hbB
          have hp0 : 0 ≤ A * B := Int.mul_nonneg hA0 hB0
          have hp1 : A * B ≤ 4294967295 := by omega
          have w1 : IntKind.i64.wrap (A * B) = A * B := IntWalk.i64_in _ (by omega)
          have w2 : IntKind.i64.wrap (O + cy + A * B) = O + cy + A * B := IntWalk.i64_in _ (by omega)
          have hk0 : (0 : Int) ≤ (k : Int) := by omega
          have hkn : (k : Int) < (n : Int) := by omega
          have hq0 : (0 : Int) ≤ (q : Int) := by omega
          have hqn : (q : Int) < (n' : Int) := by omega
          go_wp2_with fail
          go_quiet (fail)
          clear w1 w2
          go_wp2_with fail
          go_roundw
          case rel => exact ⟨q + 1, _, _, by omega, by go_num, rfl, Hown3.out nq, Ht3.out, (below_drewN hb2 nq).setCell (Nat.le_refl _) _⟩
          case measure => simp [intOf]; omega
        · by_cases h3 : 0 < cy
          · have hqe : q = n' := by have := Hq.out h3; omega
            have hin : k + q < N := by rw [HN.out]; omega
            obtain ⟨g2, c2, he, _, _, _, hcells⟩ := Hown2.out.out (by rw [hlen2.out]; omega)
            simp only [Value.slice.injEq, Option.some.injEq, Addr.mk.injEq, and_true] at he
            obtain ⟨rfl, hn2, hc2⟩ := he
            clear hn2 hc2
            obtain ⟨hO, hF⟩ := hcells (k + q) (by rw [hlen2.out]; exact hin)
            have hbO := nth_dg Ht.out.dg (k + q)
            obtain ⟨O, hO'⟩ : ∃ O, O = nth outs2 (k + q) := ⟨_, rfl⟩
            rw [← hO'] at hO hbO
            have HO' := Lib.hid hO'
            clear hO' hcells
            rw [Nat.zero_add] at hO hF
            have hst := Ht.out.step (v := O + cy) Hdg.out Hdg'.out (by rw [Hn.out]; exact hlt) (by rw [Hn'.out]; omega) (by rw [HO'.out, nth_over (show ds'.length ≤ q by rw [Hn'.out]; omega)]; omega)
            obtain ⟨hv0, hv1, ht3⟩ := hst
            have Ht3 := Lib.hid ht3
            have hown3 := Hown2.out.set (k + q) ((O + cy) % 65536) (by rw [hlen2.out]; exact hin)
            rw [Nat.zero_add] at hown3
            have Hown3 := Lib.hid hown3
            have Hqe := Lib.hid hqe
            clear ht3 hown3 hqe
            obtain ⟨hO0, hO1⟩ := hbO
            have hk0 : (0 : Int) ≤ (k : Int) := by omega
            have hkn : (k : Int) < (n : Int) := by omega
            have hq0 : (0 : Int) ≤ (q : Int) := by omega
            go_wp2_with fail
            go_roundw
            case rel => exact ⟨q + 1, _, _, by have := Hqe.out; omega, by go_num, rfl, Hown3.out, Ht3.out, hb2.setCell (Nat.le_refl _) _⟩
            case measure => simp [intOf]; have := Hqe.out; omega
          · have hc0 : cy = 0 := by omega
            subst hc0
            have hfin := Ht.out.fin (by rw [Hn'.out]; omega)
            have Hfin := Lib.hid (And.intro Ht.out.dg (And.intro Ht.out.len hfin))
            clear hfin
            go_wp2_with fail
            go_roundw
            case rel => exact ⟨k + 1, _, by omega, by go_num, Hown2.out, Hfin.out.1, Hfin.out.2.1, Hfin.out.2.2, hb2⟩
            case measure => simp [intOf]; omega
    · have hkn : k = n := by omega
      have hvo : dval outs = dval ds * dval ds' := by have := Ho.out.2.2.2; rw [List.take_of_length_le (by rw [Hn.out]; omega)] at this; exact this
      have Hvo := Lib.hid hvo
      clear hvo hkn
      go_wp2_with fail
      refine (trim_is (some ⟨G, 0, none⟩) N N outs (!(sx == sy)) wr Ho.out.1.ints Ho.out.2.1).mono ?_
      rintro e w7 ⟨m, neg', rfl, hm, hB7, hb7⟩
      have HG' := HG.out
      have hfro := fun (o : Nat) => (hb.frozen (p := ⟨g + 2, o, none⟩) (show g + 2 < G by omega))
      obtain ⟨e0', e1', k0', k1'⟩ := res_keep (w := wr) (w' := w7) ⟨cell_lt hb (by omega) He.out.1, cell_lt hb (by omega) He.out.2.1, (hfro 0).trans He.out.2.2.1, (hfro 1).trans He.out.2.2.2⟩ hb7
      obtain ⟨q0, q1⟩ := two_set w7 (g + 1 + 1) (.slice (some ⟨G, 0, none⟩) m N) (.bool neg') _ _ e0' e1'
      have hK : outs.length ≤ L + M + 1 := by rw [Ho.out.2.2.1, Hn.out, Hn'.out]; exact Hlen.out
      have Hfin := Lib.hid (add_fin (X := x * y) (LL := L + M + 1) Heg.out (by rw [HG']; omega) Hb.out Ho.out.1 (by omega) (by rw [HG']; exact hb) hb7 hm hB7 (by rw [Hvo.out, Hvv.out.1, Hvv.out.2]; exact Hxy.out) hK)
      clear hb7 hB7 hm c0 c1 d0 d1 hfro hK HG'
      go_wp2_with fail
      exact bodyPost_ret (v := .agg #[.slice (some ⟨G, 0, none⟩) m N, .bool neg']) (by simp [results, Try.results18, go_sem, q0, q1]) rfl Hfin.out
end Go.Proofs.Ytodikaekpncjjaa
