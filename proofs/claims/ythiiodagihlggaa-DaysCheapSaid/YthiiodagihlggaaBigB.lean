/-
  My own work: tranterref01.size, trim, Of: their contracts.
-/
import Derived.Test.YthiiodagihlggaaBigA
namespace Go.Proofs.Ythiiodagihlggaa
open Go.RowKit
set_option linter.unusedVariables false

def cmpI (x y : Int) : Int := if x < y then -1 else if y < x then 1 else 0
theorem cmpI_lt {x y : Int} (h : x < y) : cmpI x y = -1 := by unfold cmpI; rw [if_pos h]
theorem cmpI_gt {x y : Int} (h : y < x) : cmpI x y = 1 := by unfold cmpI; rw [if_neg (by omega), if_pos h]
theorem cmpI_eq {x y : Int} (h : x = y) : cmpI x y = 0 := by unfold cmpI; rw [if_neg (by omega), if_neg (by omega)]

set_option maxHeartbeats 1600000 in
theorem size_is (va vb : Value) (xs ys : List Int) (w : World) (ha : Ints w va xs) (hb : Ints w vb ys) (hx : Dg xs) (hy : Dg ys) (hnx : Nm xs) (hny : Nm ys) :
    Calls Try.prog 42 #[va, vb] w fun e w' => e = .returned (.int .i64 (cmpI (dval xs) (dval ys))) ∧ Below w.heap.size w w' := by
  obtain ⟨a, n, c, rfl, hn, hmax, hcell⟩ := ha.open
  obtain ⟨a', n', c', rfl, hn', hmax', hcell'⟩ := hb.open
  have Hn := Lib.hid hn
  have Hn' := Lib.hid hn'
  have Hcell := Lib.hid hcell
  have Hcell' := Lib.hid hcell'
  have Hx := Lib.hid hx
  have Hy := Lib.hid hy
  have Hnx := Lib.hid hnx
  have Hny := Lib.hid hny
  clear hn hn' ha hb hcell hcell' hx hy hnx hny hmax'
  by_cases hne : n = n'
  rotate_left
  · have hne' : ((n : Int) != (n' : Int)) = true := by rw [bne_iff_ne]; omega
    by_cases hlt : n < n'
    · have Hc : Hid (cmpI (dval xs) (dval ys) = -1) := cmpI_lt (shorter_lt Hx.out Hy.out Hny.out (by rw [Hn.out, Hn'.out]; exact hlt))
      go_enter Try.func42, Try.ntmps42
      go_wp2_with fail
      go_ret
      rw [Hc.out]
      exact ⟨rfl, Below.refl _ _⟩
    · have Hc : Hid (cmpI (dval xs) (dval ys) = 1) := cmpI_gt (shorter_lt Hy.out Hx.out Hnx.out (by rw [Hn.out, Hn'.out]; omega))
      go_enter Try.func42, Try.ntmps42
      go_wp2_with fail
      go_ret
      rw [Hc.out]
      exact ⟨rfl, Below.refl _ _⟩
  · subst hne
    go_enter Try.func42, Try.ntmps42
    go_wp2_with fail
    go_loopw [5] (fun i wr => ∃ k : Nat, k ≤ n ∧ i = .int .i64 ((k : Int) - 1) ∧ xs.drop k = ys.drop k ∧ Below w.heap.size w wr) (fun i _ => (intOf i + 1).toNat)
    case atStart => exact ⟨n, Nat.le_refl _, rfl, by rw [List.drop_of_length_le (by rw [Hn.out]; omega), List.drop_of_length_le (by rw [Hn'.out]; omega)], Below.refl _ _⟩
    case round =>
      obtain ⟨k, hk, rfl, hd, hbw⟩ := hrel
      have Hd := Lib.hid hd
      clear hd
      by_cases hk0 : 1 ≤ k
      · obtain ⟨i, rfl⟩ : ∃ i, k = i + 1 := ⟨k - 1, by omega⟩
        rw [show ((i + 1 : Nat) : Int) - 1 = (i : Int) by omega]
        obtain ⟨b, o, rfl, hc0⟩ := Hcell.out i (by omega)
        obtain ⟨b', o', rfl, hc0'⟩ := Hcell'.out i (by omega)
        have hc := cell_below hbw hc0
        have hc' := cell_below hbw hc0'
        clear hc0 hc0'
        have hi0 : (0 : Int) ≤ (i : Int) := by omega
        have hi1 : (i : Int) < (n : Int) := by omega
        by_cases h1 : nth xs i < nth ys i
        · have Hc : Hid (cmpI (dval xs) (dval ys) = -1) := cmpI_lt (digit_lt Hx.out Hy.out (by rw [Hn.out, Hn'.out]) i (by rw [Hn.out]; omega) Hd.out h1)
          have h1' : decide (nth xs i < nth ys i) = true := by simpa using h1
          clear h1
          go_wp2_with fail
          go_quiet (fail)
          go_wp2_with fail
          go_ret
          rw [Hc.out]
          exact ⟨rfl, below_drewN hbw nq⟩
        have h1' : decide (nth xs i < nth ys i) = false := by simpa using h1
        by_cases h2 : nth ys i < nth xs i
        · have Hc : Hid (cmpI (dval xs) (dval ys) = 1) := cmpI_gt (digit_lt Hy.out Hx.out (by rw [Hn.out, Hn'.out]) i (by rw [Hn'.out]; omega) Hd.out.symm h2)
          have h2' : decide (nth ys i < nth xs i) = true := by simpa using h2
          clear h1 h2
          go_wp2_with fail
          go_quiet (fail)
          go_wp2_with fail
          go_quiet (fail)
          go_wp2_with fail
          go_ret
          rw [Hc.out]
          exact ⟨rfl, by first | exact below_drewN hbw _ | exact below_drewN (below_drewN hbw _) _⟩
        · have h2' : decide (nth ys i < nth xs i) = false := by simpa using h2
          have heq : nth xs i = nth ys i := by omega
          have Heq := Lib.hid heq
          clear h1 h2 heq
          go_wp2_with fail
          go_quiet (fail)
          go_wp2_with fail
          go_quiet (fail)
          go_wp2_with fail
          go_roundw
          case rel => exact ⟨i, by omega, by go_num, by rw [drop_nth xs i (by rw [Hn.out]; omega), drop_nth ys i (by rw [Hn'.out]; omega), Heq.out, Hd.out], by first | exact below_drewN hbw _ | exact below_drewN (below_drewN hbw _) _⟩
          case measure => simp [intOf]
      · have hk' : k = 0 := by omega
        subst hk'
        have Hc : Hid (cmpI (dval xs) (dval ys) = 0) := cmpI_eq (by have := Hd.out; simp only [List.drop_zero] at this; rw [this])
        clear hk0
        go_wp2_with fail
        go_ret
        rw [Hc.out]
        exact ⟨rfl, hbw⟩

/-! ### trim, Of, Neg, Add, Times, Int, Below: numbers -/
/-- The value v is the number x, of at most L digits. -/
def IsBig (w : World) (v : Value) (x : Int) (L : Nat) : Prop :=
  ∃ dv ds, v = .agg #[dv, .bool (decide (x < 0))] ∧ Ints w dv ds ∧ Dg ds ∧ Nm ds ∧ dval ds = (x.natAbs : Int) ∧ ds.length ≤ L
theorem IsBig.below {w w' : World} {v : Value} {x : Int} {L : Nat} (h : IsBig w v x L) (hb : Below w.heap.size w w') : IsBig w' v x L := by
  obtain ⟨dv, ds, h1, h2, h3⟩ := h
  exact ⟨dv, ds, h1, h2.below hb, h3⟩
theorem IsBig.mono {w : World} {v : Value} {x : Int} {L L' : Nat} (h : IsBig w v x L) (hl : L ≤ L') : IsBig w v x L' := by
  obtain ⟨dv, ds, h1, h2, h3, h4, h5, h6⟩ := h
  exact ⟨dv, ds, h1, h2, h3, h4, h5, by omega⟩

/-- A struct of two cells, boxed. -/
theorem box_two (w : World) (v0 v1 : Value) (T : TypeId) :
    ∃ w1, w.alloc (.cells #[v0, v1] T) = w1 ∧ Below w.heap.size w w1 ∧ w1.heap.size = w.heap.size + 1 ∧ w1.cell? ⟨w.heap.size, 0, none⟩ = some v0 ∧ w1.cell? ⟨w.heap.size, 1, none⟩ = some v1 ∧
      w1.frozen? ⟨w.heap.size, 0, none⟩ = false ∧ w1.frozen? ⟨w.heap.size, 1, none⟩ = false :=
  ⟨_, rfl, (Below.refl _ _).alloc (Nat.le_refl _) _, by simp, by simp [go_sem], by simp [go_sem], by simp [go_sem], by simp [go_sem]⟩

/-- How long the slice in a cell is. -/
def lenAt : Option Value → Nat
  | some (.slice _ m _) => m
  | _ => 0
theorem trim_zero {ds : List Int} {m : Nat} (h0 : nth ds m = 0) : dval (ds.take (m + 1)) = dval (ds.take m) := by rw [dval_take_succ, h0, Int.mul_zero, Int.add_zero]
theorem nm_take {ds : List Int} {m : Nat} (hm : m + 1 ≤ ds.length) (h0 : nth ds m ≠ 0) : Nm (ds.take (m + 1)) := by
  intro _
  rw [List.length_take, Nat.min_eq_left hm, Nat.add_sub_cancel, nth_take (by omega)]
  exact h0
theorem nm_nil : Nm [] := fun h => by simp at h

theorem two_set (w : World) (B : Nat) (u v u' v' : Value) (h0 : w.cell? ⟨B, 0, none⟩ = some u') (h1 : w.cell? ⟨B, 1, none⟩ = some v') :
    (w.setCell ⟨B, 0, none⟩ u).cell? ⟨B, 0, none⟩ = some u ∧ ((w.setCell ⟨B, 0, none⟩ u).setCell ⟨B, 1, none⟩ v).cell? ⟨B, 1, none⟩ = some v := by
  have hs := World.block_lt_of_cell? w _ h0
  constructor
  · simp [go_sem, h0]
  · simp [go_sem, h0, h1]
/-- With a sign. -/
def sg (neg : Bool) (x : Int) : Int := if neg = true then -x else x
theorem dval_pos {ds : List Int} (h : Dg ds) (hn : Nm ds) (hp : 0 < ds.length) : 0 < dval ds := by
  have h1 := norm_ge h hn hp
  have h2 := pw_pos (ds.length - 1)
  omega
theorem sg_neg {neg : Bool} {x : Int} (h : 0 < x) : decide (sg neg x < 0) = neg := by
  cases neg <;> simp [sg] <;> omega
theorem sg_abs {neg : Bool} {x : Int} (h : 0 ≤ x) : x = ((sg neg x).natAbs : Int) := by
  cases neg <;> simp [sg] <;> omega
theorem IsBig.of_sg {w : World} {dv : Value} {ds : List Int} {neg : Bool} {L : Nat} (h : Ints w dv ds) (hg : Dg ds) (hn : Nm ds) (hp : 0 < ds.length) (hl : ds.length ≤ L) : IsBig w (.agg #[dv, .bool neg]) (sg neg (dval ds)) L :=
  ⟨dv, ds, by rw [sg_neg (dval_pos hg hn hp)], h, hg, hn, sg_abs (dval_bd hg).1, hl⟩
theorem IsBig.zero {w : World} {dv : Value} {neg : Bool} {x : Int} {L : Nat} (h : Ints w dv []) (hx : x = 0) : IsBig w (.agg #[dv, .bool false]) (sg neg x) L := by
  subst hx
  refine ⟨dv, [], ?_, h, Dg.nil, nm_nil, ?_, by simp⟩ <;> cases neg <;> simp [sg, dval]

/-- What trim answers. -/
def TrimOut (w : World) (a : Option Addr) (n c : Nat) (x : Int) (L : Nat) (e : Ending) (w' : World) : Prop :=
  ∃ m neg', e = .returned (.agg #[.slice a m c, .bool neg']) ∧ m ≤ n ∧ IsBig w (.agg #[.slice a m c, .bool neg']) x L ∧ Below w.heap.size w w'

set_option maxHeartbeats 1600000 in
/-- trim: the same number without noughts at the end; 0 is not below 0. -/
theorem trim_is (a : Option Addr) (n c : Nat) (ds : List Int) (neg : Bool) (w : World) (hd : Ints w (.slice a n c) ds) (hdg : Dg ds) :
    Calls Try.prog 43 #[.agg #[.slice a n c, .bool neg]] w (TrimOut w a n c (sg neg (dval ds)) ds.length) := by
  obtain ⟨w1, ew, hb1, hs1, c0, c1, f0, f1⟩ := box_two w (.slice a n c) (.bool neg) 63
  have hd1 := hd.below hb1
  obtain ⟨a', n', c', he, hn, hmax, _⟩ := hd1.open
  simp only [Value.slice.injEq] at he
  obtain ⟨rfl, rfl, rfl⟩ := he
  have hcap := hd1.cap.1
  have Hew := Lib.hid ew
  have Hn := Lib.hid hn
  have Hdg := Lib.hid hdg
  have Hd : Hid (Ints w (.slice a n c) ds) := Lib.hid hd
  have Hcap : Hid (c ≤ 9223372036854775807) := hd1.cap.2
  have Hd1 := Lib.hid hd1
  have Hcw : Hid (∀ k, k < n → ∃ b o, a = some ⟨b, o, none⟩ ∧ b < w.heap.size ∧ w.cell? ⟨b, o + k, none⟩ = some (.int .i64 (nth ds k))) := by
    obtain ⟨a', n', c', he, hn', _, hcc⟩ := hd.open
    simp only [Value.slice.injEq] at he
    obtain ⟨rfl, rfl, rfl⟩ := he
    intro k hk
    obtain ⟨b, o, h1, h2⟩ := hcc k hk
    exact ⟨b, o, h1, World.block_lt_of_cell? w _ h2, h2⟩
  clear ew hn hd hd1 hdg
  go_enter Try.func43, Try.ntmps43
  go_wp2_with fail
  rw [Hew.out]
  have hl0 : w.heap.size < w1.heap.size := by omega
  obtain ⟨w2, ew2, hb2, hs2, e0, e1, k0, k1⟩ := box_two w1 (.slice none 0 0) (.bool false) 63
  rw [ew2]
  have d0 := cell_below hb2 c0
  have d1 := cell_below hb2 c1
  have r0 := (hb2.frozen (p := ⟨w.heap.size, 0, none⟩) hl0).trans f0
  have r1 := (hb2.frozen (p := ⟨w.heap.size, 1, none⟩) hl0).trans f1
  have hbw2 := hb1.trans (hb2.mono hb1.size)
  rw [hs1] at e0 e1 k0 k1
  have hg : w.heap.size + 1 < w2.heap.size := by omega
  have Hwd : Hid (∀ k, k < n → ∃ b o, a = some ⟨b, o, none⟩ ∧ b < w.heap.size ∧ w.cell? ⟨b, o + k, none⟩ = some (.int .i64 (nth ds k))) := Hcw
  clear ew2 c0 c1 f0 f1 hb1 hb2 hs1 hs2
  generalize eg : w.heap.size = g at *
  have Heg := Lib.hid eg
  clear eg
  go_loopw [] (fun wr => ∃ m : Nat, m ≤ n ∧ wr.cell? ⟨g, 0, none⟩ = some (.slice a m c) ∧ wr.cell? ⟨g, 1, none⟩ = some (.bool neg) ∧ wr.frozen? ⟨g, 0, none⟩ = false ∧ wr.frozen? ⟨g, 1, none⟩ = false ∧
      wr.cell? ⟨g + 1, 0, none⟩ = some (.slice none 0 0) ∧ wr.cell? ⟨g + 1, 1, none⟩ = some (.bool false) ∧ wr.frozen? ⟨g + 1, 0, none⟩ = false ∧ wr.frozen? ⟨g + 1, 1, none⟩ = false ∧
      dval (ds.take m) = dval ds ∧ Below g w wr) (fun wr => lenAt (wr.cell? ⟨g, 0, none⟩))
  case atStart => exact ⟨n, Nat.le_refl _, d0, d1, r0, r1, e0, e1, k0, k1, by rw [List.take_of_length_le (by rw [Hn.out]; omega)], hbw2⟩
  case round =>
    clear d0 d1 r0 r1 e0 e1 k0 k1 hbw2
    obtain ⟨m, hm, d0, d1, r0, r1, e0, e1, k0, k1, hv, hb⟩ := hrel
    have Hv := Lib.hid hv
    have hsz := World.block_lt_of_cell? wr _ e0
    clear hv
    by_cases h0 : m = 0
    · subst h0
      have hz : dval ds = 0 := by have := Hv.out; simp [dval] at this; omega
      have Hz := Lib.hid hz
      clear hz
      have hb' := ((hb.setCell (p := ⟨g, 1, none⟩) (Nat.le_refl _) (.bool false)).setCell (p := ⟨g + 1, 0, none⟩) (Nat.le_succ _) (.slice a 0 c)).setCell (p := ⟨g + 1, 1, none⟩) (Nat.le_succ _) (.bool false)
      obtain ⟨q0, q1⟩ := two_set (wr.setCell ⟨g, 1, none⟩ (.bool false)) (g + 1) (.slice a 0 c) (.bool false) _ _ (by rw [World.cell?_setCell_other _ _ _ _ (by simp)]; exact e0) (by rw [World.cell?_setCell_other _ _ _ _ (by simp)]; exact e1)
      go_wp2_with fail
      exact bodyPost_ret (v := .agg #[.slice a 0 c, .bool false]) (by simp [results, Try.results43, go_sem, q0, q1]) rfl ⟨_, _, rfl, hm, IsBig.zero ⟨a, c, rfl, Nat.zero_le _, Hcap.out, fun i hi => absurd hi (by simp)⟩ Hz.out, by rw [Heg.out]; exact hb'⟩
    · obtain ⟨i, rfl⟩ : ∃ i, m = i + 1 := ⟨m - 1, by omega⟩
      obtain ⟨b, o, rfl, hbg, hc0⟩ := Hwd.out i (by omega)
      have hc := cell_lt hb hbg hc0
      clear hc0 h0
      by_cases h1 : nth ds i = 0
      · have h1' : (nth ds i == 0) = true := by simpa using h1
        have H1 := Lib.hid h1
        have hic : (i : Int) ≤ (c : Int) := by omega
        clear h1
        go_wp2_with fail
        go_roundw
        case rel =>
          refine ⟨i, by omega, by simp [go_sem, hsz, d0], ?_, ?_, ?_, ?_, ?_, ?_, ?_, by rw [← Hv.out, trim_zero H1.out], hb.setCell (Nat.le_refl _) _⟩ <;> first | (rw [World.frozen?_setCell]; assumption) | (rw [World.cell?_setCell_other _ _ _ _ (by simp)]; assumption)
        case measure => simp [lenAt, d0, go_sem]
      · have h1' : (nth ds i == 0) = false := by simpa using h1
        have H1 := Lib.hid h1
        have hb' := (hb.setCell (p := ⟨g + 1, 0, none⟩) (Nat.le_succ _) (.slice (some ⟨b, o, none⟩) (i + 1) c)).setCell (p := ⟨g + 1, 1, none⟩) (Nat.le_succ _) (.bool neg)
        have hl : Hid ((ds.take (i + 1)).length = i + 1) := Lib.hid (by rw [List.length_take, Hn.out]; omega)
        have hI : Hid (Ints w (.slice (some ⟨b, o, none⟩) (i + 1) c) (ds.take (i + 1))) := Lib.hid (Hd.out.take hm)
        clear h1
        obtain ⟨q0, q1⟩ := two_set wr (g + 1) (.slice (some ⟨b, o, none⟩) (i + 1) c) (.bool neg) _ _ e0 e1
        go_wp2_with fail
        exact bodyPost_ret (v := .agg #[.slice (some ⟨b, o, none⟩) (i + 1) c, .bool neg]) (by simp [results, Try.results43, go_sem, q0, q1]) rfl ⟨_, _, rfl, hm, by rw [← Hv.out]; exact IsBig.of_sg hI.out (Hdg.out.take _) (nm_take (by rw [Hn.out]; omega) H1.out) (by rw [hl.out]; omega) (by rw [hl.out, Hn.out]; omega), by rw [Heg.out]; exact hb'⟩
end Go.Proofs.Ythiiodagihlggaa
