/-
  My own work: draw.counts and Pick; the walks of DrawPicks and DrawNothing.
-/
import Derived.Test.YthnkjlcdjjhloaaRow
namespace Go.Proofs.Ythnkjlcdjjhloaa
open Go.RowKit
set_option linter.unusedVariables false

/-- What a worth counts. -/
def cnt (x : Int) : Int := clipI x 0 2147483648
theorem cnt_bd (x : Int) : 0 ≤ cnt x ∧ cnt x ≤ 2147483648 := by unfold cnt clipI; omega
theorem cnt_pos {x : Int} (h : 0 < cnt x) : 0 < x := by unfold cnt clipI at h; omega
theorem counts_is (x : Int) (w : World) : Calls Try.prog 36 #[.int .i64 x] w fun e w' => e = .returned (.int .i64 (cnt x)) ∧ w = w' := by
  go_enter Try.func36, Try.ntmps36
  go_wp2_with fail
  refine (clip_is x 0 2147483648 w).mono ?_
  rintro e w' ⟨rfl, rfl⟩
  go_wp2_with fail
  go_ret
  exact ⟨rfl, rfl⟩

/-- The first k worths together. -/
def upTo (q : List Int) (k : Nat) : Int := ((q.take k).map cnt).sum
theorem upTo_succ (q : List Int) (k : Nat) (h : k < q.length) : upTo q (k + 1) = upTo q k + cnt (nth q k) := by
  unfold upTo; rw [take_succ_nth q k h, List.map_append, List.sum_append]; simp
theorem upTo_bd (q : List Int) (k : Nat) : 0 ≤ upTo q k ∧ upTo q k ≤ 2147483648 * q.length := by
  unfold upTo
  induction q generalizing k with
  | nil => simp
  | cons x q ih =>
    have hx := cnt_bd x
    cases k with
    | zero => simp; omega
    | succ k =>
      have := ih k
      simp only [List.take_succ_cons, List.map_cons, List.sum_cons, List.length_cons]
      omega
theorem upTo_wrap (q : List Int) (k : Nat) (hl : q.length ≤ 1048576) (h : k < q.length) : wrap64 (upTo q k + cnt (nth q k)) = upTo q (k + 1) := by
  rw [← upTo_succ q k h]
  have := upTo_bd q (k + 1)
  exact wrap_id (by omega) (by omega)

set_option maxHeartbeats 1600000 in
theorem pick_is (g : Nat) (s : Int) (qv : Value) (q : List Int) (w : World) (hs : IsStream w g s) (hq : Ints w qv q) (hne : 0 < q.length → qv.ownBlock ≠ some g) (hlen : q.length ≤ 1048576) :
    Calls Try.prog 26 #[.pointer (some ⟨g, 0, none⟩), qv] w fun e w' =>
      (upTo q q.length = 0 → e = .returned (.int .i64 (-1)) ∧ w = w') ∧
      (upTo q q.length ≠ 0 → ∃ k s', k < q.length ∧ e = .returned (.int .i64 (k : Nat)) ∧ 0 < nth q k ∧ IsStream w' g s' ∧ w.grownBy w' (some g)) := by
  obtain ⟨a, n, c, rfl, hn, hmax, hcell⟩ := hq.open
  have Hn := Lib.hid hn
  have Hcell := Lib.hid hcell
  have Hq := Lib.hid hq
  have Hne := Lib.hid hne
  have hl : n ≤ 1048576 := by omega
  have Hup : Hid (∀ k, k < n → wrap64 (upTo q k + cnt (nth q k)) = upTo q (k + 1)) := fun k hk => upTo_wrap q k hlen (by omega)
  clear hn hcell hq hmax hlen hne
  by_cases h0 : upTo q q.length = 0
  · have H0 := Lib.hid h0
    clear h0
    go_enter Try.func26, Try.ntmps26
    go_wp2_with fail
    go_loop [5, 14] (fun t i => ∃ k : Nat, k ≤ n ∧ i = .int .i64 k ∧ t = .int .i64 (upTo q k)) (fun _ i => n - (intOf i).toNat)
    case atStart => exact ⟨0, Nat.zero_le _, rfl, rfl⟩
    case round =>
      obtain ⟨k, hk, rfl, rfl⟩ := hrel
      by_cases hlt : k < n
      · obtain ⟨b, o, rfl, hc⟩ := Hcell.out k hlt
        go_wp2_with fail
        refine (counts_is (nth q k) w).mono ?_
        rintro e w' ⟨rfl, rfl⟩
        go_wp2_with fail
        go_round
        case rel => exact ⟨k + 1, by omega, by go_num, by rw [Hup.out k hlt]⟩
        case measure => simp [intOf]; omega
      · have hz : upTo q k = 0 := by have := H0.out; rw [Hn.out] at this; rw [show k = n by omega]; exact this
        rw [hz]
        go_wp2_with fail
        go_ret
        exact ⟨fun _ => ⟨rfl, rfl⟩, fun h => absurd H0.out h⟩
  · have H0 := Lib.hid h0
    have hpos : 1 ≤ upTo q n := by have := upTo_bd q n; rw [Hn.out] at h0; omega
    have hbig := (upTo_bd q n).2
    have Hbig := Lib.hid hbig
    clear h0 hbig
    go_enter Try.func26, Try.ntmps26
    go_wp2_with fail
    go_loop [5, 14] (fun t i => ∃ k : Nat, k ≤ n ∧ i = .int .i64 k ∧ t = .int .i64 (upTo q k)) (fun _ i => n - (intOf i).toNat)
    case atStart => exact ⟨0, Nat.zero_le _, rfl, rfl⟩
    case round =>
      obtain ⟨k, hk, rfl, rfl⟩ := hrel
      by_cases hlt : k < n
      · obtain ⟨b, o, rfl, hc⟩ := Hcell.out k hlt
        go_wp2_with fail
        refine (counts_is (nth q k) w).mono ?_
        rintro e w' ⟨rfl, rfl⟩
        go_wp2_with fail
        go_round
        case rel => exact ⟨k + 1, by omega, by go_num, by rw [Hup.out k hlt]⟩
        case measure => simp [intOf]; omega
      · have hkn : k = n := by omega
        subst hkn
        have hz : (upTo q k == 0) = false := by simp; omega
        go_wp2_with fail
        refine (below_any g s (upTo q k) w hs hpos (by show _ ≤ _; have := Hbig.out; have := Hn.out; omega)).mono ?_
        rintro e w1 ⟨x, s1, rfl, hx1, hx2, hs1, hg1⟩
        have Hq1 := Lib.hid (Hq.out.kept hg1 Hne.out)
        clear hz hpos hlt hk
        go_wp2_with fail
        go_loop [9, 30] (fun t i => ∃ j : Nat, j ≤ k ∧ i = .int .i64 j ∧ t = .int .i64 (upTo q j) ∧ upTo q j ≤ x) (fun _ i => k - (intOf i).toNat)
        case atStart => exact ⟨0, Nat.zero_le _, rfl, rfl, by simpa [upTo] using hx1⟩
        case round =>
          obtain ⟨j, hj, rfl, rfl, hjx⟩ := hrel
          by_cases hlt : j < k
          · obtain ⟨a', n', c', he, _, _, hcl⟩ := Hq1.out.open
            simp only [Value.slice.injEq] at he
            obtain ⟨rfl, rfl, rfl⟩ := he
            obtain ⟨b, o, rfl, hc⟩ := hcl j hlt
            clear hcl
            have hu := Hup.out j hlt
            go_wp2_with fail
            refine (counts_is (nth q j) w1).mono ?_
            rintro e w' ⟨rfl, rfl⟩
            by_cases hf : x < upTo q (j + 1)
            · go_wp2_with fail
              go_ret
              refine ⟨fun h => absurd h H0.out, fun _ => ⟨j, s1, by rw [Hn.out]; exact hlt, rfl, ?_, hs1, hg1⟩⟩
              have := upTo_succ q j (by rw [Hn.out]; exact hlt)
              exact cnt_pos (by omega)
            · go_wp2_with fail
              go_round
              case rel => exact ⟨j + 1, by omega, by go_num, by first | rfl | rw [hu], by omega⟩
              case measure => simp [intOf]; omega
          · exfalso
            have : j = k := by omega
            subst this
            omega

/-- Has one of the first k a worth? -/
def anyPos (q : List Int) (k : Nat) : Bool := (q.take k).any (fun x => decide (0 < x))
theorem anyPos_succ (q : List Int) (k : Nat) (h : k < q.length) : anyPos q (k + 1) = (anyPos q k || decide (0 < nth q k)) := by
  unfold anyPos; rw [take_succ_nth q k h, List.any_append]; simp
theorem upTo_pos {q : List Int} (h : anyPos q q.length = true) : upTo q q.length ≠ 0 := by
  unfold anyPos upTo at *
  rw [List.take_length] at *
  obtain ⟨x, hx, hp⟩ := List.any_eq_true.1 h
  simp only [decide_eq_true_eq] at hp
  have : ∀ l : List Int, 0 ≤ (l.map cnt).sum := by
    intro l
    induction l with
    | nil => simp
    | cons y l ih => have := cnt_bd y; simp only [List.map_cons, List.sum_cons]; omega
  induction q with
  | nil => simp at hx
  | cons y q ih =>
    have h1 := cnt_bd y
    have h2 := this q
    simp only [List.map_cons, List.sum_cons]
    rcases List.mem_cons.1 hx with rfl | hx'
    · have : 0 < cnt x := by unfold cnt clipI; omega
      omega
    · have := ih (by rw [List.any_eq_true]; exact ⟨x, hx', by simpa using hp⟩) hx'
      omega
theorem upTo_zero {q : List Int} (h : anyPos q q.length = false) : upTo q q.length = 0 := by
  unfold anyPos upTo at *
  rw [List.take_length] at *
  induction q with
  | nil => simp
  | cons y q ih =>
    simp only [List.any_cons, Bool.or_eq_false_iff, decide_eq_false_iff_not] at h
    simp only [List.map_cons, List.sum_cons]
    rw [ih h.2]
    have : cnt y = 0 := by unfold cnt clipI; omega
    omega

set_option maxHeartbeats 1600000 in
theorem drawPicks_walk (seed : Int) (qv : Value) (q0 : List Int) (w : World) (hq0 : Ints w qv q0) :
    Calls Try.prog 9 #[.int .i64 seed, qv] w fun e w' => e = .returned (.bool true) ∧ Below w.heap.size w w' := by
  obtain ⟨a0, n0, c0, rfl, hn0, hmax0, _⟩ := hq0.open
  have hcap := hq0.cap.1
  have Hn0 := Lib.hid hn0
  have Hq0 := Lib.hid hq0
  clear hn0 hq0
  by_cases h20 : 20 < n0
  · have hc20 : 20 ≤ c0 := by omega
    go_enter Try.func9, Try.ntmps9
    go_wp2_with fail
    refine (new_is seed _).mono ?_
    rintro e wa ⟨rfl, ha, hba⟩
    have la := ha.lt
    go_wp2_with fail
    have hq0' : Ints w (.slice a0 20 c0) (q0.take 20) := Hq0.out.take (by omega)
    have hlq : (q0.take 20).length ≤ 20 := by simp; omega
    generalize q0.take 20 = q at *
    have hnn := hq0'.notNew (Nat.le_refl _)
    have hq := hq0'.below hba
    obtain ⟨a, n, c, he, hn, _, hcell⟩ := hq.open
    simp only [Value.slice.injEq] at he
    obtain ⟨rfl, he2, rfl⟩ := he
    have Hn := Lib.hid hn
    have Hcell := Lib.hid hcell
    have Hq := Lib.hid hq
    subst he2
    have hn20 : 20 ≤ 20 := by omega
    have hs := ha
    clear hcell hq hq0' hn
    go_loop [6, 7] (fun t i => ∃ k : Nat, k ≤ 20 ∧ i = .int .i64 k ∧ t = .bool (anyPos q k)) (fun _ i => 20 - (intOf i).toNat)
    case atStart => exact ⟨0, Nat.zero_le _, rfl, rfl⟩
    case round =>
      obtain ⟨k, hk, rfl, rfl⟩ := hrel
      by_cases hlt : k < 20
      · obtain ⟨b, o, rfl, hc⟩ := Hcell.out k hlt
        have Hs : Hid (anyPos q (k + 1) = (anyPos q k || decide (0 < nth q k))) := anyPos_succ q k (by rw [Hn.out]; exact hlt)
        cases hb : anyPos q k with
        | true =>
          rw [hb] at Hs
          have Hb := Lib.hid hb
          clear hb
          go_wp2_with fail
          go_round
          case rel => exact ⟨k + 1, by omega, by go_num, by rw [Hs.out]; rfl⟩
          case measure => simp [intOf]; omega
        | false =>
          rw [hb] at Hs
          have Hb := Lib.hid hb
          clear hb
          by_cases hp : 0 < nth q k
          all_goals
            go_wp2_with fail
            go_round
            case rel => exact ⟨k + 1, by omega, by go_num, by rw [Hs.out]; simp [hp]⟩
            case measure => simp [intOf]; omega
      · have hkn : k = 20 := by omega
        have hpk := pick_is w.heap.size _ (.slice a0 20 c0) q wa hs Hq.out hnn (by omega)
        rw [Hn.out] at hpk
        rw [hkn]
        clear hkn hk hlt k
        cases hb : anyPos q 20 with
        | true =>
          have hne := upTo_pos (q := q) (by rw [Hn.out]; exact hb)
          rw [Hn.out] at hne
          have hpk2 := hpk.mono (fun e w' h => h.2 hne)
          have Hpk := Lib.hid hpk2
          have Hb := Lib.hid hb
          clear hpk hpk2 hne hb
          go_wp2_with fail
          refine Hpk.out.mono ?_
          rintro e w1 ⟨j, s1, hj, rfl, hpos, hs1, hg1⟩
          have Hq1 := Lib.hid (Hq.out.kept hg1 hnn)
          have hb1 := hba.grown hg1 (by omega) (fun k hk => by simp at hk; omega)
          obtain ⟨a', n', c', he, _, _, hcl⟩ := Hq1.out.open
          simp only [Value.slice.injEq] at he
          obtain ⟨rfl, rfl, rfl⟩ := he
          obtain ⟨b, o, rfl, hc⟩ := hcl j hj
          clear hcl hg1 hs1 ha hs
          have l1 := hb1.size
          go_wp2_with fail
          refine (lives04_is _).mono ?_
          rintro e w7 ⟨rfl, hb7⟩
          go_wp2_with fail
          go_ret
          exact ⟨rfl, hb1.trans (hb7.mono (by omega))⟩
        | false =>
          have hz := upTo_zero (q := q) (by rw [Hn.out]; exact hb)
          rw [Hn.out] at hz
          have hpk2 := hpk.mono (fun e w' h => h.1 hz)
          have Hpk := Lib.hid hpk2
          have Hb := Lib.hid hb
          clear hpk hpk2 hz hb
          go_wp2_with fail
          refine Hpk.out.mono ?_
          rintro e w1 ⟨rfl, rfl⟩
          go_wp2_with fail
          refine (lives04_is _).mono ?_
          rintro e w7 ⟨rfl, hb7⟩
          go_wp2_with fail
          go_ret
          exact ⟨rfl, hba.trans (hb7.mono (by omega))⟩
  · go_enter Try.func9, Try.ntmps9
    go_wp2_with fail
    refine (new_is seed _).mono ?_
    rintro e wa ⟨rfl, ha, hba⟩
    have la := ha.lt
    go_wp2_with fail
    have hq0' : Ints w (.slice a0 n0 c0) (q0.take 20) := by rw [List.take_of_length_le (by rw [Hn0.out]; omega)]; exact Hq0.out
    have hlq : (q0.take 20).length ≤ 20 := by simp; omega
    generalize q0.take 20 = q at *
    have hnn := hq0'.notNew (Nat.le_refl _)
    have hq := hq0'.below hba
    obtain ⟨a, n, c, he, hn, _, hcell⟩ := hq.open
    simp only [Value.slice.injEq] at he
    obtain ⟨rfl, he2, rfl⟩ := he
    have Hn := Lib.hid hn
    have Hcell := Lib.hid hcell
    have Hq := Lib.hid hq
    subst he2
    have hn20 : n0 ≤ 20 := by omega
    have hs := ha
    clear hcell hq hq0' hn
    go_loop [6, 7] (fun t i => ∃ k : Nat, k ≤ n0 ∧ i = .int .i64 k ∧ t = .bool (anyPos q k)) (fun _ i => n0 - (intOf i).toNat)
    case atStart => exact ⟨0, Nat.zero_le _, rfl, rfl⟩
    case round =>
      obtain ⟨k, hk, rfl, rfl⟩ := hrel
      by_cases hlt : k < n0
      · obtain ⟨b, o, rfl, hc⟩ := Hcell.out k hlt
        have Hs : Hid (anyPos q (k + 1) = (anyPos q k || decide (0 < nth q k))) := anyPos_succ q k (by rw [Hn.out]; exact hlt)
        cases hb : anyPos q k with
        | true =>
          rw [hb] at Hs
          have Hb := Lib.hid hb
          clear hb
          go_wp2_with fail
          go_round
          case rel => exact ⟨k + 1, by omega, by go_num, by rw [Hs.out]; rfl⟩
          case measure => simp [intOf]; omega
        | false =>
          rw [hb] at Hs
          have Hb := Lib.hid hb
          clear hb
          by_cases hp : 0 < nth q k
          all_goals
            go_wp2_with fail
            go_round
            case rel => exact ⟨k + 1, by omega, by go_num, by rw [Hs.out]; simp [hp]⟩
            case measure => simp [intOf]; omega
      · have hkn : k = n0 := by omega
        have hpk := pick_is w.heap.size _ (.slice a0 n0 c0) q wa hs Hq.out hnn (by omega)
        rw [Hn.out] at hpk
        rw [hkn]
        clear hkn hk hlt k
        cases hb : anyPos q n0 with
        | true =>
          have hne := upTo_pos (q := q) (by rw [Hn.out]; exact hb)
          rw [Hn.out] at hne
          have hpk2 := hpk.mono (fun e w' h => h.2 hne)
          have Hpk := Lib.hid hpk2
          have Hb := Lib.hid hb
          clear hpk hpk2 hne hb
          go_wp2_with fail
          refine Hpk.out.mono ?_
          rintro e w1 ⟨j, s1, hj, rfl, hpos, hs1, hg1⟩
          have Hq1 := Lib.hid (Hq.out.kept hg1 hnn)
          have hb1 := hba.grown hg1 (by omega) (fun k hk => by simp at hk; omega)
          obtain ⟨a', n', c', he, _, _, hcl⟩ := Hq1.out.open
          simp only [Value.slice.injEq] at he
          obtain ⟨rfl, rfl, rfl⟩ := he
          obtain ⟨b, o, rfl, hc⟩ := hcl j hj
          clear hcl hg1 hs1 ha hs
          have l1 := hb1.size
          go_wp2_with fail
          refine (lives04_is _).mono ?_
          rintro e w7 ⟨rfl, hb7⟩
          go_wp2_with fail
          go_ret
          exact ⟨rfl, hb1.trans (hb7.mono (by omega))⟩
        | false =>
          have hz := upTo_zero (q := q) (by rw [Hn.out]; exact hb)
          rw [Hn.out] at hz
          have hpk2 := hpk.mono (fun e w' h => h.1 hz)
          have Hpk := Lib.hid hpk2
          have Hb := Lib.hid hb
          clear hpk hpk2 hz hb
          go_wp2_with fail
          refine Hpk.out.mono ?_
          rintro e w1 ⟨rfl, rfl⟩
          go_wp2_with fail
          refine (lives04_is _).mono ?_
          rintro e w7 ⟨rfl, hb7⟩
          go_wp2_with fail
          go_ret
          exact ⟨rfl, hba.trans (hb7.mono (by omega))⟩
end Go.Proofs.Ythnkjlcdjjhloaa
