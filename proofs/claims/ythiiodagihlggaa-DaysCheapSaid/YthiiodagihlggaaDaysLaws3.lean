/-
  My own work: the walks of DaysBest and DaysCheap.
-/
import Derived.Test.YthiiodagihlggaaDaysLaws
import Derived.Test.YthiiodagihlggaaDaysG
namespace Go.Proofs.Ythiiodagihlggaa
open Go.RowKit
set_option linter.unusedVariables false

/-- The rest of DaysBest, once both are cut. -/
theorem best_both (lv pv : Value) (l : List Nat) (ps : List Int) (w : World) (hl : Words w lv l) (hlw : ∀ x ∈ l, x < 18446744073709551616) (hp : Ints w pv ps) (hf : ∀ x ∈ ps, fitsI x = true) (hl10 : l.length ≤ 1000) : ∃ A L : Int,
    Calls Try.prog 23 #[lv, pv] w (fun e w' => e = .returned (.tuple #[.int .i64 A, .int .i64 L]) ∧ Below w.heap.size w w') ∧
    (∀ w', Below w.heap.size w w' → Calls Try.prog 24 #[lv, pv] w' (fun e w'' => e = .returned (.tuple #[.int .i64 A, .int .i64 L]) ∧ Below w'.heap.size w' w'')) :=
  ⟨_, _, best_is lv pv l ps w hl hlw hp hf hl10, fun w' hb => refBest_is lv pv l ps w' (hl.below hb) hlw (hp.below hb) hf hl10⟩

set_option maxHeartbeats 1600000 in
theorem daysBest_walk (lv pv : Value) (l : List Nat) (ps : List Int) (w : World) (hl : Words w lv l) (hlw : ∀ x ∈ l, x < 18446744073709551616) (hp : Ints w pv ps) (hf : ∀ x ∈ ps, fitsI x = true) :
    Calls Try.prog 7 #[lv, pv] w fun e w' => e = .returned (.bool true) ∧ Below w.heap.size w w' := by
  obtain ⟨a, n, c, rfl, hn, hnc, hcm, _⟩ := hl.open
  obtain ⟨pa, m, pc, rfl, hm, _, _⟩ := hp.open
  have hpcap := hp.cap
  obtain ⟨k, hk⟩ : ∃ k, k = min n 10 := ⟨_, rfl⟩
  obtain ⟨j, hj⟩ : ∃ j, j = min m 70 := ⟨_, rfl⟩
  have hl' := hl.take (show k ≤ n by omega)
  have hp' := hp.take (show j ≤ m by omega)
  obtain ⟨A, L, h1, h2⟩ := best_both _ _ (l.take k) (ps.take j) w hl' (fun x hx => hlw x (List.mem_of_mem_take hx)) hp' (fun x hx => hf x (List.mem_of_mem_take hx)) (by rw [List.length_take]; omega)
  have H1 := Lib.hid h1
  have H2 := Lib.hid h2
  have q1 : (A == A) = true := by simp
  have q2 : (L == L) = true := by simp
  obtain ⟨hp1, hp2⟩ := hpcap
  clear h1 h2 hl hp hl' hp' hn hm hlw hf
  by_cases hn10 : 10 < n
  · have hk10 : k = 10 := by omega
    subst hk10
    have r1 : (10 : Int) < (n : Int) := by omega
    have r2 : (10 : Int) ≤ (c : Int) := by omega
    have Hk := Lib.hid hk
    clear hk hn10
    by_cases hm70 : 70 < m
    · have hj70 : j = 70 := by omega
      subst hj70
      have r3 : (70 : Int) < (m : Int) := by omega
      have r4 : (70 : Int) ≤ (pc : Int) := by omega
      have Hj := Lib.hid hj
      clear hj hm70
      go_enter Try.func7, Try.ntmps7
      go_wp2_with fail
      refine H1.out.mono ?_
      rintro e w1 ⟨rfl, hb1⟩
      go_wp2_with fail
      refine (H2.out w1 hb1).mono ?_
      rintro e w2 ⟨rfl, hb2⟩
      have b2 := hb1.trans (hb2.mono hb1.size)
      clear hb1 hb2
      go_wp2_with fail
      refine (lives02_is _).mono ?_
      rintro e w10 ⟨rfl, hb10⟩
      go_wp2_with fail
      go_ret
      exact ⟨rfl, b2.trans (hb10.mono b2.size)⟩
    · have hjm : j = m := by omega
      subst hjm
      have r3 : ¬ (70 : Int) < (j : Int) := by omega
      clear hj hm70
      go_enter Try.func7, Try.ntmps7
      go_wp2_with fail
      refine H1.out.mono ?_
      rintro e w1 ⟨rfl, hb1⟩
      go_wp2_with fail
      refine (H2.out w1 hb1).mono ?_
      rintro e w2 ⟨rfl, hb2⟩
      have b2 := hb1.trans (hb2.mono hb1.size)
      clear hb1 hb2
      go_wp2_with fail
      refine (lives02_is _).mono ?_
      rintro e w10 ⟨rfl, hb10⟩
      go_wp2_with fail
      go_ret
      exact ⟨rfl, b2.trans (hb10.mono b2.size)⟩
  · have hkn : k = n := by omega
    subst hkn
    have r1 : ¬ (10 : Int) < (k : Int) := by omega
    clear hk hn10
    by_cases hm70 : 70 < m
    · have hj70 : j = 70 := by omega
      subst hj70
      have r3 : (70 : Int) < (m : Int) := by omega
      have r4 : (70 : Int) ≤ (pc : Int) := by omega
      have Hj := Lib.hid hj
      clear hj hm70
      go_enter Try.func7, Try.ntmps7
      go_wp2_with fail
      refine H1.out.mono ?_
      rintro e w1 ⟨rfl, hb1⟩
      go_wp2_with fail
      refine (H2.out w1 hb1).mono ?_
      rintro e w2 ⟨rfl, hb2⟩
      have b2 := hb1.trans (hb2.mono hb1.size)
      clear hb1 hb2
      go_wp2_with fail
      refine (lives02_is _).mono ?_
      rintro e w10 ⟨rfl, hb10⟩
      go_wp2_with fail
      go_ret
      exact ⟨rfl, b2.trans (hb10.mono b2.size)⟩
    · have hjm : j = m := by omega
      subst hjm
      have r3 : ¬ (70 : Int) < (j : Int) := by omega
      clear hj hm70
      go_enter Try.func7, Try.ntmps7
      go_wp2_with fail
      refine H1.out.mono ?_
      rintro e w1 ⟨rfl, hb1⟩
      go_wp2_with fail
      refine (H2.out w1 hb1).mono ?_
      rintro e w2 ⟨rfl, hb2⟩
      have b2 := hb1.trans (hb2.mono hb1.size)
      clear hb1 hb2
      go_wp2_with fail
      refine (lives02_is _).mono ?_
      rintro e w10 ⟨rfl, hb10⟩
      go_wp2_with fail
      go_ret
      exact ⟨rfl, b2.trans (hb10.mono b2.size)⟩

/-- The best of some sets is one of them, and no other's prices are less. -/
theorem best_least (ps : List Int) (l : List Nat) (k : Nat) : 0 < k → ∃ i : Nat, i < k ∧ (bestUpto ps l k).1 = (i : Int) ∧ (bestUpto ps l k).2 = priceI ps (nthN l i) ∧ ∀ j, j < k → (bestUpto ps l k).2 ≤ priceI ps (nthN l j) := by
  induction k with
  | zero => intro h; omega
  | succ k ih =>
    intro _
    unfold bestUpto
    by_cases hk : 0 < k
    · obtain ⟨i, h1, h2, h3, h4⟩ := ih hk
      by_cases hc : (bestUpto ps l k).1 < 0 ∨ priceI ps (nthN l k) < (bestUpto ps l k).2
      · rw [if_pos hc]
        refine ⟨k, by omega, rfl, rfl, fun j hj => ?_⟩
        rcases hc with hc | hc
        · omega
        · by_cases e : j = k
          · subst e; exact Int.le_refl _
          · have := h4 j (by omega)
            show priceI ps (nthN l k) ≤ _
            omega
      · rw [if_neg hc]
        refine ⟨i, by omega, h2, h3, fun j hj => ?_⟩
        by_cases e : j = k
        · subst e; omega
        · exact h4 j (by omega)
    · have : k = 0 := by omega
      subst this
      rw [if_pos (.inl (by simp [bestUpto]))]
      refine ⟨0, by omega, rfl, rfl, fun j hj => ?_⟩
      rw [show j = 0 by omega]
      exact Int.le_refl _

def cut40 (x : Int) : Int := x.tmod 1099511627776
theorem cut40_bd (x : Int) : -1099511627776 < cut40 x ∧ cut40 x < 1099511627776 := by
  unfold cut40
  have h := Int.emod_emod_of_dvd x (Int.dvd_refl 1099511627776)
  rcases Int.le_total 0 x with h0 | h0
  · rw [Int.tmod_eq_emod_of_nonneg h0]; omega
  · have := Int.tmod_eq_emod_of_nonneg (a := -x) (b := 1099511627776) (by omega)
    rw [Int.neg_tmod] at this
    omega
def ownUpto (ps : List Int) (k : Nat) : List Int := (ps.take k).map cut40
theorem ownUpto_succ (ps : List Int) (k : Nat) (h : k < ps.length) : ownUpto ps (k + 1) = ownUpto ps k ++ [cut40 (nth ps k)] := by
  unfold ownUpto
  rw [take_succ_nth ps k h, List.map_append]
  rfl
theorem ownUpto_len (ps : List Int) (k : Nat) : (ownUpto ps k).length ≤ k := by
  unfold ownUpto
  rw [List.length_map, List.length_take]
  omega
theorem ownUpto_fits (ps : List Int) (k : Nat) : ∀ x ∈ ownUpto ps k, fitsI x = true := by
  intro x hx
  unfold ownUpto at hx
  obtain ⟨y, _, rfl⟩ := List.mem_map.1 hx
  have := cut40_bd y
  rw [fitsI_iff]
  omega

set_option maxRecDepth 100000 in
set_option maxHeartbeats 1600000 in
theorem daysCheap_walk (lv pv : Value) (l : List Nat) (ps : List Int) (q : Int) (w : World) (hl : Words w lv l) (hlw : ∀ x ∈ l, x < 18446744073709551616) (hp : Ints w pv ps) (hq : fitsI q = true) :
    Calls Try.prog 8 #[lv, pv, .int .i64 q] w fun e w' => e = .returned (.bool true) ∧ Below w.heap.size w w' := by
  obtain ⟨a, n0, c, rfl, hn, hnc, hcm, _⟩ := hl.open
  obtain ⟨pa, m, pc, rfl, hm, hmm, hpc⟩ := hp.open
  have hpc' : ∀ k, k < m → ∃ b o, pa = some ⟨b, o, none⟩ ∧ b < w.heap.size ∧ w.cell? ⟨b, o + k, none⟩ = some (.int .i64 (nth ps k)) := fun k hk => by
    obtain ⟨b, o, e1, e2⟩ := hpc k hk
    exact ⟨b, o, e1, World.block_lt_of_cell? w _ e2, e2⟩
  have Hpc := Lib.hid hpc'
  have Hm := Lib.hid hm
  obtain ⟨n, hk⟩ : ∃ n, n = min n0 10 := ⟨_, rfl⟩
  have hl' := hl.take (show n ≤ n0 by omega)
  have hlw' : ∀ x ∈ l.take n, x < 18446744073709551616 := fun x hx => hlw x (List.mem_of_mem_take hx)
  have hll : (l.take n).length = n := by rw [List.length_take]; omega
  generalize l.take n = L at *
  have Hl := Lib.hid hl'
  have Hlw := Lib.hid hlw'
  have Hll := Lib.hid hll
  have Hq := Lib.hid hq
  have hn10 : n ≤ 10 := by omega
  clear hl' hl hlw hlw' hp hn hm hpc hpc' hll hq
  go_enter Try.func8, Try.ntmps8
  by_cases hgt : 10 < n0
  have hn' : n = 10 := by omega
  have r1 : (10 : Int) < (n0 : Int) := by omega
  have r2 : (10 : Int) ≤ (c : Int) := by omega
  have Hn' := Lib.hid hn'
  clear hk hn' hgt
  go_wp2_with fail
  rw [show Value.slice a 10 c = Value.slice a n c by rw [Hn'.out]]
  rotate_left
  have hn' : n = n0 := by omega
  subst hn'
  have r1 : ¬ (10 : Int) < (n : Int) := by omega
  clear hk hgt
  go_wp2_with fail
  all_goals
    go_loopw [7, 8] (fun v i wr => ∃ (k : Nat) (u : Value), k ≤ m ∧ k ≤ 64 ∧ i = .int .i64 k ∧ u = v ∧ Own wr w.heap.size u (ownUpto ps k) ∧ Below w.heap.size w wr) (fun _ i _ => 64 - (intOf i).toNat)
    case atStart => exact ⟨0, _, Nat.zero_le _, Nat.zero_le _, rfl, rfl, Own.nil _ _, Below.refl _ _⟩
    case round =>
      obtain ⟨k, v, hk1, hk2, rfl, rfl, hown, hb⟩ := hrel
      by_cases hlt : k < m ∧ k < 64
      · obtain ⟨h1, h2⟩ := hlt
        obtain ⟨b, o, rfl, hbl, hc0⟩ := Hpc.out k h1
        have hc := cell_lt hb hbl hc0
        have Hy := Lib.hid (ownUpto_succ ps k (by rw [Hm.out]; exact h1))
        have Hle := Lib.hid (ownUpto_len ps k)
        have hk0 : (0 : Int) ≤ (k : Int) := by omega
        have hk3 : (k : Int) < (m : Int) := by omega
        have hk4 : (k : Int) < 64 := by omega
        have hcb := cut40_bd (nth ps k)
        have hw : wrap64 ((nth ps k).tmod 1099511627776) = (nth ps k).tmod 1099511627776 := wrap_id (by unfold cut40 at hcb; omega) (by unfold cut40 at hcb; omega)
        clear hc0 hcb
        go_wp2_with (at_builtin; refine wpList_push rfl _ _ rfl wr w.heap.size v (ownUpto ps k) ((nth ps k).tmod 1099511627776) rfl rfl hown (by have := Hle.out; omega) hb.size ?_)
        intro v' w5 hown5 g5 hb5
        rw [show ownUpto ps k ++ [(nth ps k).tmod 1099511627776] = ownUpto ps (k + 1) from Hy.out.symm] at hown5
        have hb5' := hb.trans hb5
        clear g5 hb5 hown hc hw
        go_wp2_with fail
        go_roundw
        case rel => exact ⟨k + 1, _, by omega, by omega, by go_num, rfl, hown5, hb5'⟩
        case measure => simp [intOf]; omega
      · have hstop : ((m : Int) ≤ (k : Int)) ∨ ((k : Int) < (m : Int) ∧ (64 : Int) ≤ (k : Int)) := by omega
        obtain ⟨pv', hpv⟩ : ∃ x : Value, x = v := ⟨_, rfl⟩
        have HI := Lib.hid hown.ints
        have HF := Lib.hid (ownUpto_fits ps k)
        have Hb := Lib.hid hb
        have Hbest := Lib.hid (best_is (.slice a n c) v L (ownUpto ps k) wr (Hl.out.below hb) Hlw.out HI.out HF.out (by rw [Hll.out]; omega))
        rw [Hll.out] at Hbest
        clear hpv hown hb hlt
        rcases hstop with hstop | ⟨hstop, hstop'⟩
        all_goals
          go_wp2_with fail
          refine Hbest.out.mono ?_
          rintro e w1 ⟨rfl, hb1⟩
          by_cases hn0 : n = 0
          · subst hn0
            rw [show bestUpto (ownUpto ps k) L 0 = (-1, 0) from rfl]
            have b1 := Lib.hid (Hb.out.trans (hb1.mono Hb.out.size))
            clear hb1
            go_wp2_with fail
            refine (lives02_is _).mono ?_
            rintro e w10 ⟨rfl, hb10⟩
            go_wp2_with fail
            go_ret
            exact ⟨rfl, b1.out.trans (hb10.mono b1.out.size)⟩
          · obtain ⟨i, h1, h2, h3, h4⟩ := best_least (ownUpto ps k) L n (by omega)
            have hq := fitsI_iff.1 Hq.out
            have hQ : ∃ Q : Nat, (q < 0 → -(q + 1) = (Q : Int)) ∧ (0 ≤ q → q = (Q : Int)) ∧ Q ≤ 9223372036854775807 := ⟨(if q < 0 then -(q + 1) else q).toNat, by split <;> omega, by split <;> omega, by split <;> omega⟩
            obtain ⟨Q, hQ1, hQ2, hQ3⟩ := hQ
            obtain ⟨R, hR⟩ : ∃ R, R = Q % n := ⟨_, rfl⟩
            have hRn : R < n := by rw [hR]; exact Nat.mod_lt _ (by omega)
            have hQR : (Q : Int) % (n : Int) = (R : Int) := by rw [hR]; omega
            have HR := Lib.hid hR
            obtain ⟨_, _, _, he, hLn, _, _, hcells⟩ := Hl.out.open
            simp only [Value.slice.injEq] at he
            obtain ⟨rfl, rfl, rfl⟩ := he
            obtain ⟨b, o, rfl, hbl, hcR0⟩ := hcells R (by omega)
            obtain ⟨b2, o2, he2, hbl2, hcI0⟩ := hcells i (by omega)
            simp only [Option.some.injEq, Addr.mk.injEq, and_true] at he2
            obtain ⟨rfl, rfl⟩ := he2
            have hbw := Hb.out.trans (hb1.mono Hb.out.size)
            have hcR := cell_lt hbw hbl hcR0
            have hcI1 := cell_lt hbw hbl hcI0
            have HsR := Lib.hid (Hlw.out _ (nthN_mem (show R < L.length by omega)))
            have HsI := Lib.hid (Hlw.out _ (nthN_mem (show i < L.length by omega)))
            have hle := h4 R hRn
            generalize hA : (bestUpto (ownUpto ps k) L n).1 = A at *
            generalize hPe : (bestUpto (ownUpto ps k) L n).2 = P at *
            subst h2
            have HP := Lib.hid h3
            have Hbw := Lib.hid hbw
            have hi0 : (0 : Int) ≤ (i : Int) := by omega
            have hi1 : (i : Int) < (n : Int) := by omega
            have hr0 : (0 : Int) ≤ (R : Int) := by omega
            have hr1 : (R : Int) < (n : Int) := by omega
            have hn1 : ((n : Int) == 0) = false := by rw [beq_eq_false_iff_ne]; omega
            have hn2 : (0 : Int) < (n : Int) := by omega
            have hn3 : ¬ (n : Int) = 0 := by omega
            clear hA hPe h3 h4 hcells hcR0 hcI0 hLn hR hn0 hbw
            by_cases hneg : q < 0
            · have hQ := hQ1 hneg
              have hq3 : -9223372036854775808 ≤ q := hq.1
              have hq4 : -9223372036854775807 ≤ q + 1 := by omega
              clear hQ1 hQ2 hq
              go_wp2_with fail
              refine (price_is _ v (ownUpto ps k) _ HsR.out (HI.out.below hb1) HF.out).mono ?_
              rintro e w2 ⟨rfl, hb2⟩
              have b2 := hb1.trans (hb2.mono hb1.size)
              have hcI2 := cell_below hb2 hcI1
              generalize priceI (ownUpto ps k) (nthN L R) = PR at *
              have hle' : decide (P ≤ PR) = true := by simpa using hle
              have hle'' : P ≤ PR := hle
              clear hle hcI1 hcR
              go_wp2_with fail
              refine (price_is _ v (ownUpto ps k) _ HsI.out (HI.out.below b2) HF.out).mono ?_
              rintro e w3 ⟨rfl, hb3⟩
              have b3 := Lib.hid (Hb.out.trans ((b2.trans (hb3.mono b2.size)).mono Hb.out.size))
              rw [← HP.out]
              have hPP : (P == P) = true := by simp
              clear hb1 hb2 hb3 b2 hcI2
              go_wp2_with fail
              refine (lives02_is _).mono ?_
              rintro e w10 ⟨rfl, hb10⟩
              go_wp2_with fail
              go_ret
              exact ⟨rfl, b3.out.trans (hb10.mono b3.out.size)⟩
            · have hQ := hQ2 (by omega)
              subst hQ
              clear hQ1 hQ2 hq
              go_wp2_with fail
              refine (price_is _ v (ownUpto ps k) _ HsR.out (HI.out.below hb1) HF.out).mono ?_
              rintro e w2 ⟨rfl, hb2⟩
              have b2 := hb1.trans (hb2.mono hb1.size)
              have hcI2 := cell_below hb2 hcI1
              generalize priceI (ownUpto ps k) (nthN L R) = PR at *
              have hle' : decide (P ≤ PR) = true := by simpa using hle
              have hle'' : P ≤ PR := hle
              clear hle hcI1 hcR
              go_wp2_with fail
              refine (price_is _ v (ownUpto ps k) _ HsI.out (HI.out.below b2) HF.out).mono ?_
              rintro e w3 ⟨rfl, hb3⟩
              have b3 := Lib.hid (Hb.out.trans ((b2.trans (hb3.mono b2.size)).mono Hb.out.size))
              rw [← HP.out]
              have hPP : (P == P) = true := by simp
              clear hb1 hb2 hb3 b2 hcI2
              go_wp2_with fail
              refine (lives02_is _).mono ?_
              rintro e w10 ⟨rfl, hb10⟩
              go_wp2_with fail
              go_ret
              exact ⟨rfl, b3.out.trans (hb10.mono b3.out.size)⟩
end Go.Proofs.Ythiiodagihlggaa
