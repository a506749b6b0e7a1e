/-
  My own work: the walk of NumOrder.
-/
import Derived.Test.YtodikaekpncjjaaNumLaws
import Derived.Test.YtodikaekpncjjaaBigPl
import Derived.Deep.QuietTactic
import Derived.BigQuiet
namespace Go.Proofs.Ytodikaekpncjjaa
open Go.RowKit
set_option linter.unusedVariables false

theorem sum_rev (q : List Int) : q.reverse.sum = q.sum := by
  induction q with
  | nil => rfl
  | cons x q ih => rw [List.reverse_cons, List.sum_append, ih, List.sum_cons]; simp; omega
theorem sat_comm {a b : Int} (ha : fitsI a = true) (hb : fitsI b = true) : satI a b = satI b a := by
  rw [fitsI_iff] at ha hb
  unfold satI
  rw [Int.add_comm b a]
  by_cases h : fitsI (a + b) = true
  · rw [if_pos h, if_pos h]
  · rw [if_neg h, if_neg h]
    rw [fitsI_iff] at h
    split <;> split <;> omega
theorem add_sat {a b : Int} : (addE a b).2 = true → satI a b = (addE a b).1 := by
  unfold addE satI
  intro h
  by_cases h1 : fitsI (a + b) = true
  · rw [if_pos h1, if_pos h1]
  · rw [if_neg h1] at h; simp at h

set_option maxHeartbeats 3200000 in
theorem numOrder_walk (qv : Value) (q0 : List Int) (w : World) (hq : Ints w qv q0) (hf0 : ∀ x ∈ q0, fitsI x = true) :
    Calls Try.prog 5 #[qv] w fun e w' => e = .returned (.bool true) ∧ Below w.heap.size w w' := by
  obtain ⟨a, n, c, rfl, hn, hmax, _⟩ := hq.open
  have hcap := hq.cap.1
  obtain ⟨m, hm⟩ : ∃ m : Nat, m = min n 10 := ⟨_, rfl⟩
  have hq' := hq.take (show m ≤ n by omega)
  have hf' : ∀ x ∈ q0.take m, fitsI x = true := fun x hx => hf0 x (List.mem_of_mem_take hx)
  have hl' : (q0.take m).length = m := by rw [List.length_take]; omega
  generalize q0.take m = q at *
  have Hf := Lib.hid hf'
  have Hl := Lib.hid hl'
  have Hq := Lib.hid hq'
  obtain ⟨a', n', c', he, hn', _, hcell⟩ := hq'.open
  simp only [Value.slice.injEq] at he
  obtain ⟨rfl, h2, rfl⟩ := he
  rw [← h2] at hcell
  have Hcell := Lib.hid hcell
  clear hf' hl' hq' hn' h2 hcell hf0 hq hn
  have hm10 : m ≤ 10 := by omega
  have hrow : ∃ w0 : Nat, w0 = w.heap.size := ⟨_, rfl⟩
  go_enter Try.func5, Try.ntmps5
  by_cases hgt : 10 < n
  have hmm : m = 10 := by omega
  have hc10 : (10 : Int) ≤ (c : Int) := by omega
  have hgt' : (10 : Int) < (n : Int) := by omega
  have Hm := Lib.hid hm
  have Hmm := Lib.hid hmm
  clear hm hmm hgt
  go_wp2_with fail
  rw [show Value.slice a 10 c = Value.slice a m c by rw [Hmm.out]]
  rotate_left
  have hmm : m = n := by omega
  subst hmm
  have hgt' : (m : Int) ≤ 10 := by omega
  have Hm := Lib.hid hm
  clear hm hgt
  go_wp2_with fail
  all_goals
    go_loopw [3, 4] (fun v i wr => ∃ (k : Nat) (cs : List Int) (u : Value), k ≤ m ∧ v = u ∧ i = .int .i64 ((k : Int) - 1) ∧ Own wr w.heap.size u cs ∧ cs = (q.drop k).reverse ∧ Below w.heap.size w wr) (fun _ i _ => (intOf i + 1).toNat)
    case atStart => exact ⟨m, [], _, Nat.le_refl _, rfl, by first | rfl | (rw [Hmm.out]; rfl), Own.nil _ _, by rw [List.drop_of_length_le (by rw [Hl.out]; omega)]; rfl, Below.refl _ _⟩
    obtain ⟨k, cs, u, hk, rfl, rfl, hown, hcs, hb⟩ := hrel
    have Hcs := Lib.hid hcs
    have Hown := Lib.hid hown
    clear hcs hrow
    by_cases hk0 : 1 ≤ k
    · obtain ⟨i, rfl⟩ : ∃ i, k = i + 1 := ⟨k - 1, by omega⟩
      rw [show ((i + 1 : Nat) : Int) - 1 = (i : Int) by omega]
      obtain ⟨b, o, rfl, hc0⟩ := Hcell.out i (by omega)
      have hc := cell_below hb hc0
      have hi0 : (0 : Int) ≤ (i : Int) := by omega
      have hi1 : (i : Int) < (m : Int) := by omega
      have hlc : Hid (cs.length + 1 ≤ 17592186044416) := Lib.hid (by rw [Hcs.out, List.length_reverse, List.length_drop, Hl.out]; omega)
      clear hc0 hk0
      go_wp2_with (at_builtin; refine wpList_push rfl _ _ rfl wr w.heap.size u3 cs (nth q i) rfl rfl Hown.out hlc.out hb.size ?_)
      intro v' w5 hown5 g5 hb5
      have hb5' := hb.trans hb5
      have Hown5 := Lib.hid hown5
      clear hc g5 hb5 hown5 hown
      go_wp2_with fail
      go_roundw
      case rel => exact ⟨i, _, _, by omega, rfl, by go_num, Hown5.out, by rw [Hcs.out, drop_nth q i (by rw [Hl.out]; omega), List.reverse_cons], hb5'⟩
      case measure => simp [intOf]
    · have hk' : k = 0 := by omega
      subst hk'
      have hrev : Hid (cs = q.reverse) := Lib.hid (by rw [Hcs.out, List.drop_zero])
      clear hk0 hown
      go_wp2_with fail
      refine (sum_is _ q wr (Hq.out.below hb) Hf.out (by rw [Hl.out]; omega)).mono ?_
      rintro e w6 ⟨rfl, rfl⟩
      have hs2 := sum_is _ cs wr Hown.out.ints (by rw [hrev.out]; intro x hx; exact Hf.out x (List.mem_reverse.1 hx)) (by rw [hrev.out, List.length_reverse, Hl.out]; omega)
      rw [hrev.out, sum_rev] at hs2
      have Hs2 := Lib.hid hs2
      clear hs2
      generalize (sumE q.sum).1 = A at *
      generalize (sumE q.sum).2 = B at *
      go_wp2_with fail
      refine Hs2.out.mono ?_
      rintro e w6 ⟨rfl, rfl⟩
      by_cases hm2 : m < 2
      · have hm2' : (m : Int) < 2 := by omega
        clear hm2
        go_wp2_with fail
        refine (lives01_is _).mono ?_
        rintro e w7 ⟨rfl, hb7⟩
        go_wp2_with fail
        go_ret
        exact ⟨rfl, hb.trans (hb7.mono hb.size)⟩
      · have hm2' : (2 : Int) ≤ (m : Int) := by omega
        have hm1' : (1 : Int) < (m : Int) := by omega
        have hm0' : (0 : Int) < (m : Int) := by omega
        have hn0' : 0 < m := by omega
        have hn1' : 1 < m := by omega
        obtain ⟨b, o, rfl, hc0⟩ := Hcell.out 0 (by omega)
        obtain ⟨b', o', he, hc1⟩ := Hcell.out 1 (by omega)
        simp only [Option.some.injEq, Addr.mk.injEq, and_true] at he
        obtain ⟨rfl, rfl⟩ := he
        rw [Nat.add_zero] at hc0
        have e0 := cell_below hb hc0
        have e1 := cell_below hb hc1
        have f0 := Lib.hid (Hf.out _ (nth_mem (show 0 < q.length by rw [Hl.out]; omega)))
        have f1 := Lib.hid (Hf.out _ (nth_mem (show 1 < q.length by rw [Hl.out]; omega)))
        generalize nth q 0 = X at *
        generalize nth q 1 = Y at *
        have hcm := sat_comm f0.out f1.out
        have Hcm := Lib.hid hcm
        have Has := Lib.hid (add_sat (a := X) (b := Y))
        clear hc0 hc1 hm2 hcm
        go_wp2_with fail
        have Hs1 : Hid (∀ w, Calls Try.prog 20 #[.int .i64 X, .int .i64 Y] w fun e w' => e = .returned (.int .i64 (satI X Y)) ∧ w' = w) := Lib.hid (fun w => (sat_is X Y w f0.out f1.out).mono fun _ _ h => ⟨h.1, h.2.symm⟩)
        have Hs2 : Hid (∀ w, Calls Try.prog 20 #[.int .i64 Y, .int .i64 X] w fun e w' => e = .returned (.int .i64 (satI X Y)) ∧ w' = w) := Lib.hid (fun w => by rw [Hcm.out]; exact (sat_is Y X w f1.out f0.out).mono fun _ _ h => ⟨h.1, h.2.symm⟩)
        have Hs3 : Hid (∀ w, Calls Try.prog 21 #[.int .i64 X, .int .i64 Y] w fun e w' => e = .returned (.tuple #[.int .i64 (addE X Y).1, .bool (addE X Y).2]) ∧ w' = w) := Lib.hid (fun w => (add_is X Y w f0.out f1.out).mono fun _ _ h => ⟨h.1, h.2.symm⟩)
        clear Hcm f0 f1
        generalize satI X Y = S at *
        generalize (addE X Y).1 = P at *
        generalize (addE X Y).2 = R at *
        go_quiet ((go_at_call 20; exact Calls.quiet_of_same (Hs1.out _)))
        have hb2 := below_drewN hb nq
        have e02 : (wr.drewN nq).cell? ⟨b, o, none⟩ = some (.int .i64 X) := e0
        have e12 : (wr.drewN nq).cell? ⟨b, o + 1, none⟩ = some (.int .i64 Y) := e1
        generalize wr.drewN nq = wr2 at *
        clear nq hb e0 e1
        go_wp2_with fail
        go_quiet ((go_at_call 20; exact Calls.quiet_of_same (Hs2.out _)))
        have hb3 := below_drewN hb2 nq
        have e03 : (wr2.drewN nq).cell? ⟨b, o, none⟩ = some (.int .i64 X) := e02
        have e13 : (wr2.drewN nq).cell? ⟨b, o + 1, none⟩ = some (.int .i64 Y) := e12
        generalize wr2.drewN nq = wr3 at *
        clear nq hb2 e02 e12
        go_wp2_with fail
        go_quiet ((go_at_call 21; refine Calls.quiet_of_same (Hs3.out _)))
        have hb4 := below_drewN hb3 nq
        generalize wr3.drewN nq = wr4 at *
        clear nq hb3 e03 e13
        cases R
        · go_wp2_with fail
          refine (lives01_is _).mono ?_
          rintro e w7 ⟨rfl, hb7⟩
          go_wp2_with fail
          go_ret
          exact ⟨rfl, hb4.trans (hb7.mono hb4.size)⟩
        · have hPS := Has.out rfl
          subst hPS
          go_wp2_with fail
          refine (lives01_is _).mono ?_
          rintro e w7 ⟨rfl, hb7⟩
          go_wp2_with fail
          go_ret
          exact ⟨rfl, hb4.trans (hb7.mono hb4.size)⟩
end Go.Proofs.Ytodikaekpncjjaa
