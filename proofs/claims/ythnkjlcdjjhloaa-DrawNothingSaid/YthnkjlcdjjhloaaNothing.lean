/-
  My own work: the walk of DrawNothing.
-/
import Derived.Test.YthnkjlcdjjhloaaPick
namespace Go.Proofs.Ythnkjlcdjjhloaa
open Go.RowKit
set_option linter.unusedVariables false

theorem upTo_none {q : List Int} (h : ∀ x ∈ q, x ≤ 0) : upTo q q.length = 0 := by
  apply upTo_zero
  unfold anyPos
  rw [List.take_length, List.any_eq_false]
  intro x hx
  have := h x hx
  simp; omega
theorem IsRowOf.one {xs : List Int} (h : IsRowOf 1 xs) : xs.length = 1 ∧ nth xs 0 = 0 := by
  have := h.bd 0 (by omega)
  exact ⟨h.len, by omega⟩
theorem clip1 : (clipI 1 0 10000).toNat = 1 := by decide

/-- A row of one number draws nothing: the stream stands as it stood. -/
theorem shuffle_one (g gl c : Nat) (w : World) : Calls Try.prog 35 #[.slice (some ⟨gl, 0, none⟩) 1 c, .func (.func 23) #[.pointer (some ⟨g, 0, none⟩)] #[]] w fun e w' =>
      e = .returned (.tuple #[]) ∧ w = w' := by
  go_enter Try.func35, Try.ntmps35
  go_wp2_with fail
  go_loop [4] (fun i => i = .int .i64 0) (fun i => 0)
  case atStart => rfl
  case round =>
    subst hrel
    go_wp2_with fail
    go_end0
    exact ⟨rfl, rfl⟩
theorem shuffle_zero (g gl c : Nat) (w : World) : Calls Try.prog 35 #[.slice (some ⟨gl, 0, none⟩) 0 c, .func (.func 23) #[.pointer (some ⟨g, 0, none⟩)] #[]] w fun e w' =>
      e = .returned (.tuple #[]) ∧ w = w' := by
  go_enter Try.func35, Try.ntmps35
  go_wp2_with fail
  go_loop [4] (fun i => i = .int .i64 (-1)) (fun i => 0)
  case atStart => rfl
  case round =>
    subst hrel
    go_wp2_with fail
    go_end0
    exact ⟨rfl, rfl⟩

/-- A row of one number, or of none: nothing is drawn. -/
theorem rowSmall_is (g : Nat) (s m : Int) (w : World) (hs : IsStream w g s) (hm : m ≤ 1) :
    Calls Try.prog 24 #[.pointer (some ⟨g, 0, none⟩), .int .i64 m] w fun e w' =>
      ∃ v xs, e = .returned v ∧ IsStream w' g s ∧ Own w' w.heap.size v xs ∧ IsRowOf (clipI m 0 10000).toNat xs ∧ Below w.heap.size w w' := by
  obtain ⟨N, hN⟩ : ∃ N : Nat, clipI m 0 10000 = (N : Int) := ⟨(clipI m 0 10000).toNat, by unfold clipI; omega⟩
  have hN1 : N ≤ 1 := by unfold clipI at hN; omega
  have HN := Lib.hid hN
  clear hN
  have hg := hs.lt
  obtain ⟨ii, hi, hz, hsi, hby⟩ := info_parts info_int
  go_enter Try.func24, Try.ntmps24
  go_wp2_with fail
  refine (clip_is m 0 10000 w).mono ?_
  rintro e w' ⟨rfl, rfl⟩
  rw [HN.out]
  go_wp2_with (at_make; refine wpList_make_full _ rfl _ _ 32 rfl w.heap.size 3 ii (.int .i64 0) 1 Try.underlying32 hi hz hsi _ _ _ _ N rfl rfl rfl rfl (by rw [hby]; omega) (by simp only [maxLen]; omega) (Nat.le_refl _) ?_)
  intro w3 hown0 hg3
  have hown := own_made w3 _ _ _ hown0
  have hb3 := (Below.refl w.heap.size w).grown hg3 (Nat.le_refl _) (by simp)
  clear hown0 hg3 hi hz hsi hby
  go_wp2_with fail
  go_loopw [12] (fun i wr => ∃ (k : Nat) (ys : List Int), k ≤ N ∧ i = .int .i64 k ∧ Own wr w.heap.size (.slice (some ⟨w.heap.size, 0, none⟩) N N) ys ∧ ys.length = N ∧ (∀ j, j < k → nth ys j = j) ∧ Below w.heap.size w wr) (fun i _ => N - (intOf i).toNat)
  case atStart => exact ⟨0, _, Nat.zero_le _, rfl, hown, by simp, fun j hj => by omega, hb3⟩
  case round =>
    clear hown hb3
    obtain ⟨k, ys, hk, rfl, hown, hl, hall, hgr⟩ := hrel
    have Hall := Lib.hid hall
    have Hl := Lib.hid hl
    clear hall
    by_cases hlt : k < N
    · obtain ⟨g', c', hv', _, hgl1, _, hcell⟩ := hown.out (by omega)
      simp only [Value.slice.injEq, Option.some.injEq, Addr.mk.injEq, and_true] at hv'
      obtain ⟨rfl, hx1, hx2⟩ := hv'
      clear hx1 hx2
      obtain ⟨f0, f1⟩ := hcell k (by omega)
      have hset := hown.set k k (by omega)
      rw [Nat.zero_add] at f0 f1 hset
      have Hset := Lib.hid hset
      clear hcell hset hown hl
      go_wp2_with fail
      go_roundw
      case rel =>
        refine ⟨k + 1, _, by omega, by go_num, Hset.out, by rw [List.length_set]; exact Hl.out, fun j hj => ?_, hgr.setCell (Nat.le_refl _) _⟩
        rw [nth_set (by rw [Hl.out]; exact hlt)]
        by_cases e : k = j
        · subst e; simp
        · rw [if_neg e]; exact Hall.out j (by omega)
      case measure => simp [intOf]; omega
    · have hys : IsRowOf N ys := by
        have : ys = (List.range N).map (fun k : Nat => (k : Int)) := by
          apply ext_nth
          · rw [Hl.out]; simp
          · intro j hj
            rw [Hl.out] at hj
            rw [nth_map_range _ N j hj]
            exact Hall.out j (by omega)
        rw [this]
        exact rowOf_range N
      have Hys := Lib.hid hys
      have hst := hs.below hgr hg
      clear hys hl
      have hsh : Calls Try.prog 35 #[.slice (some ⟨w.heap.size, 0, none⟩) N N, .func (.func 23) #[.pointer (some ⟨g, 0, none⟩)] #[]] wr fun e w' => e = .returned (.tuple #[]) ∧ wr = w' := by
        rcases (by omega : N = 0 ∨ N = 1) with h | h
        · rw [h]; exact shuffle_zero g w.heap.size 0 wr
        · rw [h]; exact shuffle_one g w.heap.size 1 wr
      have Hsh := Lib.hid hsh
      clear hsh
      go_wp2_with fail
      refine Hsh.out.mono ?_
      rintro e w5 ⟨rfl, rfl⟩
      go_wp2_with fail
      go_ret
      rw [HN.out, Int.toNat_natCast]
      exact ⟨_, ys, rfl, hst, hown, Hys.out, hgr⟩

set_option maxHeartbeats 3200000 in
theorem drawNothing_walk (seed n : Int) (qv : Value) (q : List Int) (w : World) (hq0 : Ints w qv q) (hn : (Lit.int .i64 n).wf = true) (hqw : ∀ x ∈ q, (Lit.int .i64 x).wf = true) :
    Calls Try.prog 11 #[.int .i64 seed, .int .i64 n, qv] w fun e w' => e = .returned (.bool true) ∧ Below w.heap.size w w' := by
  obtain ⟨aq, nq, cq, rfl, hnq, hmaxq, hcellq⟩ := hq0.open
  have Hcq := Lib.hid hcellq
  have Hqw : Hid (∀ k, k < nq → -9223372036854775808 ≤ nth q k ∧ nth q k ≤ 9223372036854775807) := fun k hk => wf_i64 (hqw _ (nth_mem (by omega)))
  have Hwf := Lib.hid hn
  obtain ⟨m, hmm, hm0⟩ : ∃ m : Int, (if 0 < n then -n else n) = m ∧ m ≤ 0 := ⟨_, rfl, by split <;> omega⟩
  clear hcellq hnq hq0 hn hqw
  have Hmm := Lib.hid hmm
  clear hmm
  by_cases hpos : 0 < n
  all_goals
    go_enter Try.func11, Try.ntmps11
    go_wp2_with fail
    refine (new_is seed _).mono ?_
    rintro e wa ⟨rfl, ha, hba⟩
    have la := ha.lt
    have ha1 := ha
    go_wp2_with fail
    refine (new_is seed _).mono ?_
    rintro e wb ⟨rfl, hb, hbb⟩
    have lb := hb.lt
    have ha2 := ha1.below hbb la
    have hbel := hba.trans (hbb.mono hba.size)
    clear ha ha1 hba hbb
    generalize ea : w.heap.size = ga at *
    generalize wa.heap.size = gb at *
    have Hea := Lib.hid ea
    clear ea
    go_wp2_with fail
    have hslot : (if 0 < n then wrap64 (-n) else n) = m := by
      rw [← Hmm.out]
      by_cases h : 0 < n
      · have := wf_i64 Hwf.out
        rw [if_pos h, if_pos h]
        exact wrap_id (by omega) (by omega)
      · rw [if_neg h, if_neg h]
    first | rw [if_pos (by omega)] at hslot | rw [if_neg (by omega)] at hslot
    first | rw [hslot] | (subst hslot)
    try clear hslot
    try clear hpos
    go_loopw [9, 10] (fun u i wr => ∃ (k : Nat) (v : Value) (l : List Int), k ≤ 10 ∧ v = u ∧ i = .int .i64 k ∧ Own wr wb.heap.size v l ∧ l.length ≤ k ∧ (∀ x ∈ l, x ≤ 0) ∧ Below wb.heap.size wb wr) (fun _ i _ => 10 - (intOf i).toNat)
    case atStart => exact ⟨0, _, [], Nat.zero_le _, rfl, rfl, Own.nil _ _, by simp, by simp, Below.refl _ _⟩
    case round =>
      obtain ⟨k, v, l, hk, rfl, rfl, hown, hl, hall, hr⟩ := hrel
      have Hall := Lib.hid hall
      clear hall
      by_cases hlt : k < nq ∧ k < 10
      · obtain ⟨hlt1, hlt2⟩ := hlt
        obtain ⟨b, o, rfl, hc0⟩ := Hcq.out k hlt1
        have hblt : b < ga := by have := World.block_lt_of_cell? w _ hc0; rw [← Hea.out]; exact this
        have hc := cell_lt (hbel.trans (hr.mono (by have := hbel.size; omega))) hblt hc0
        clear hc0
        have hbd := Hqw.out k hlt1
        by_cases hp : 0 < nth q k
        · have hw : wrap64 (-nth q k) = -nth q k := wrap_id (by omega) (by omega)
          have hy : -nth q k ≤ 0 := by omega
          have Hy := Lib.hid hy
          clear hbd hy
          go_wp2_with (at_builtin; refine wpList_push rfl _ _ rfl wr wb.heap.size v l (-nth q k) rfl rfl hown (by omega) hr.size ?_)
          intro v' w5 hown5 g5 hb5
          have hb5' := hr.trans hb5
          clear hc g5 hb5 hw
          go_wp2_with fail
          go_roundw
          case rel => exact ⟨k + 1, _, _, by omega, rfl, by go_num, hown5, by simp; omega, fun x hx => by rcases List.mem_append.1 hx with h | h; exact Hall.out x h; simp at h; rw [h]; exact Hy.out, hb5'⟩
          case measure => simp [intOf]; omega
        · have hy : nth q k ≤ 0 := by omega
          have Hy := Lib.hid hy
          clear hbd hy
          go_wp2_with (at_builtin; refine wpList_push rfl _ _ rfl wr wb.heap.size v l (nth q k) rfl rfl hown (by omega) hr.size ?_)
          intro v' w5 hown5 g5 hb5
          have hb5' := hr.trans hb5
          clear hc g5 hb5
          go_wp2_with fail
          go_roundw
          case rel => exact ⟨k + 1, _, _, by omega, rfl, by go_num, hown5, by simp; omega, fun x hx => by rcases List.mem_append.1 hx with h | h; exact Hall.out x h; simp at h; rw [h]; exact Hy.out, hb5'⟩
          case measure => simp [intOf]; omega
      · have hexit : ¬ (k < nq) ∨ (k < nq ∧ ¬ (k < 10)) := by omega
        clear hlt
        have hr0 := hbel.trans (hr.mono (by have := hbel.size; omega))
        have sa := ha2.below hr (by omega)
        have sb := hb.below hr lb
        have hup := upTo_none Hall.out
        have hnot : v.ownBlock ≠ some ga := by
          rcases hown.not (g := ga) (by omega) with h | h
          · rw [h]; simp
          · exact h
        have Hnot := Lib.hid hnot
        have hpk := fun W (h1 : IsStream W ga (IntKind.u64.wrap seed)) (h2 : Ints W v l) => (pick_is ga _ v l W h1 h2 (fun _ => hnot) (by omega)).mono (fun e w' h => h.1 hup)
        have Hpk := Lib.hid hpk
        have hlt' := hr.size
        have hbs := hbel.size
        rw [Hea.out] at hbs
        clear hpk hup hnot hr
        rcases hexit with he | ⟨he1, he2⟩
        all_goals
          go_wp2_with fail
          refine (rowSmall_is ga _ 1 wr sa (by omega)).mono ?_
          rintro e w1 ⟨ov, os, rfl, sa1, oown, orow, ob1⟩
          rw [clip1] at orow
          have hone := orow.one
          obtain ⟨oa, on, oc, rfl, hon, _, hocell⟩ := oown.ints.open
          rw [hone.1] at hon
          subst hon
          obtain ⟨ob, oo, rfl, hoc⟩ := hocell 0 (by omega)
          rw [hone.2] at hoc
          have sb1 := sb.below ob1 sb.lt
          have own1 := hown.below ob1
          have hr1 := hr0.trans (ob1.mono (by have := sa.lt; omega))
          clear orow hone oown hocell ob1 sa
          go_wp2_with fail
          refine (below_no ga m w1 (by omega)).mono ?_
          rintro e w' ⟨rfl, rfl⟩
          go_wp2_with fail
          refine (Hpk.out w1 sa1 own1.ints).mono ?_
          rintro e w' ⟨rfl, rfl⟩
          go_wp2_with fail
          refine (rowSmall_is ga _ m w1 sa1 (by omega)).mono ?_
          rintro e w2 ⟨zv, zs, rfl, sa2, zown, zrow, zb⟩
          have hzl : zs.length = 0 := by rw [zrow.len]; unfold clipI; omega
          obtain ⟨za, zn, zc, rfl, hzn, _, _⟩ := zown.ints.open
          rw [hzl] at hzn
          subst hzn
          have sb2 := sb1.below zb sb1.lt
          have hoc2 := cell_below zb hoc
          have hr2 := hr1.trans (zb.mono (by have := sa1.lt; omega))
          clear zown zrow zb hzl hoc own1 sa1 sb1
          simp only [Nat.add_zero] at hoc2
          go_wp2_with fail
          refine (word_is ga _ _ sa2).mono ?_
          rintro e w3 ⟨rfl, sa3, g3⟩
          have sb3 := sb2.kept g3 (by omega)
          have hr3 := hr2.grown g3 (by have := sa2.lt; omega) (fun k hk => by simp at hk; omega)
          clear hoc2
          go_wp2_with fail
          refine (word_is gb _ _ sb3).mono ?_
          rintro e w4 ⟨rfl, sb4, g4⟩
          have l4 := sb4.lt
          have hr4 := hr3.grown g4 (by have := sb3.lt; omega) (fun k hk => by simp at hk; omega)
          go_wp2_with fail
          refine (lives04_is _).mono ?_
          rintro e w5 ⟨rfl, hb5⟩
          go_wp2_with fail
          go_ret
          exact ⟨rfl, by rw [Hea.out]; exact hr4.trans (hb5.mono (by omega))⟩
end Go.Proofs.Ythnkjlcdjjhloaa
