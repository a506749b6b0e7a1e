/-
  My own work: dual.Fit: its contract.
-/
import Derived.Test.YthilfibgpobcjaaDualA
namespace Go.Proofs.Ythilfibgpobcjaa
open Go.RowKit
set_option linter.unusedVariables false
attribute [local go_sem ↓] Go.wp_at_zero Go.wp_at_succ

/-- Numbers, the first k of which are turned. -/
def turnL (n : Nat) (f g : Nat → Int) (k : Nat) : List Int := (List.range n).map fun j => if j < k then f j else g j
theorem turnL_len (n : Nat) (f g : Nat → Int) (k : Nat) : (turnL n f g k).length = n := by simp [turnL]
theorem nth_turnL (n : Nat) (f g : Nat → Int) (k j : Nat) (h : j < n) : nth (turnL n f g k) j = if j < k then f j else g j := nth_map_range _ _ _ h
theorem turnL_zero (n : Nat) (f g : Nat → Int) (xs : List Int) (hl : xs.length = n) (hg : ∀ j, j < n → nth xs j = g j) : xs = turnL n f g 0 := by
  apply ext_nth (by rw [turnL_len, hl])
  intro j hj
  rw [nth_turnL _ _ _ _ _ (by omega), if_neg (by omega), hg j (by omega)]
theorem turnL_all (n : Nat) (f g : Nat → Int) : turnL n f g n = (List.range n).map f := by
  unfold turnL
  apply List.map_congr_left
  intro j hj
  rw [if_pos (by simpa using hj)]
theorem turnL_set (n : Nat) (f g : Nat → Int) (k : Nat) (h : k < n) : (turnL n f g k).set k (f k) = turnL n f g (k + 1) := by
  apply ext_nth (by rw [List.length_set, turnL_len, turnL_len])
  intro j hj
  rw [List.length_set, turnL_len] at hj
  rw [nth_set (by rw [turnL_len]; exact h), nth_turnL _ _ _ _ _ hj, nth_turnL _ _ _ _ _ hj]
  by_cases e : k = j
  · subst e; rw [if_pos rfl, if_pos (by omega)]
  · rw [if_neg e]
    by_cases h1 : j < k
    · rw [if_pos h1, if_pos (by omega)]
    · rw [if_neg h1, if_neg (by omega)]

/-- A block of two cells that may be written. -/
structure Blk2 (w : World) (t : Nat) (u0 u1 : Value) : Prop where
  lies : Lies w t [u0, u1]
  f0 : w.frozen? ⟨t, 0, none⟩ = false
  f1 : w.frozen? ⟨t, 1, none⟩ = false
theorem Blk2.new (w : World) (u0 u1 : Value) (T : TypeId) : Blk2 (w.alloc (.cells #[u0, u1] T)) w.heap.size u0 u1 := ⟨Lies.new w [u0, u1] T, by simp [go_sem], by simp [go_sem]⟩
theorem Blk2.lt {w : World} {t : Nat} {u0 u1 : Value} (h : Blk2 w t u0 u1) : t < w.heap.size := h.lies.lt
theorem Blk2.below {w w' : World} {t : Nat} {u0 u1 : Value} (h : Blk2 w t u0 u1) (hb : Below w.heap.size w w') : Blk2 w' t u0 u1 := ⟨h.lies.below hb, frozen_below hb h.lt h.f0, frozen_below hb h.lt h.f1⟩
theorem Blk2.drew {w : World} {t : Nat} {u0 u1 : Value} (h : Blk2 w t u0 u1) : Blk2 w.drew t u0 u1 := h.below (belDrew w)
theorem Blk2.kept {w w' : World} {t : Nat} {u0 u1 : Value} {r : Option Nat} (h : Blk2 w t u0 u1) (hg : w.grownBy w' r) (hne : some t ≠ r) : Blk2 w' t u0 u1 := ⟨h.lies.kept hg hne, frozen_grown hg h.lt hne h.f0, frozen_grown hg h.lt hne h.f1⟩
theorem Blk2.cells {w : World} {t : Nat} {u0 u1 : Value} (h : Blk2 w t u0 u1) : w.cell? ⟨t, 0, none⟩ = some u0 ∧ w.cell? ⟨t, 1, none⟩ = some u1 ∧ w.frozen? ⟨t, 0, none⟩ = false ∧ w.frozen? ⟨t, 1, none⟩ = false := ⟨h.lies.at 0 _ rfl, h.lies.at 1 _ rfl, h.f0, h.f1⟩
theorem Blk2.set {w : World} {t : Nat} {u0 u1 : Value} (h : Blk2 w t u0 u1) (v0 v1 : Value) : Blk2 ((w.setCell ⟨t, 0, none⟩ v0).setCell ⟨t, 1, none⟩ v1) t v0 v1 :=
  ⟨set2 h.lies v0 v1, by rw [World.frozen?_setCell, World.frozen?_setCell]; exact h.f0, by rw [World.frozen?_setCell, World.frozen?_setCell]; exact h.f1⟩

theorem six_below {W w1 : World} (hb : Below W.heap.size W w1) {g : Nat} {u0 u1 u2 u3 u4 u5 : Value} (h : W.cell? ⟨g, 0, none⟩ = some u0 ∧ W.cell? ⟨g, 1, none⟩ = some u1 ∧ W.cell? ⟨g, 2, none⟩ = some u2 ∧ W.cell? ⟨g, 3, none⟩ = some u3 ∧ W.cell? ⟨g, 4, none⟩ = some u4 ∧ W.cell? ⟨g, 5, none⟩ = some u5) :
    w1.cell? ⟨g, 0, none⟩ = some u0 ∧ w1.cell? ⟨g, 1, none⟩ = some u1 ∧ w1.cell? ⟨g, 2, none⟩ = some u2 ∧ w1.cell? ⟨g, 3, none⟩ = some u3 ∧ w1.cell? ⟨g, 4, none⟩ = some u4 ∧ w1.cell? ⟨g, 5, none⟩ = some u5 :=
  ⟨cell_below hb h.1, cell_below hb h.2.1, cell_below hb h.2.2.1, cell_below hb h.2.2.2.1, cell_below hb h.2.2.2.2.1, cell_below hb h.2.2.2.2.2⟩

/-- Prices stand in block t, in a block of the call's own; their numbers elsewhere. -/
structure FitSt (B : Nat) (w2 : World) (t : Nat) (ov iv : Value) (O I : List Int) (w : World) : Prop where
  ge : B ≤ t
  blk : Blk2 w t ov iv
  own : OwnP w B ov iv O I
  ne0 : ov.ownBlock ≠ some t
  ne1 : iv.ownBlock ≠ some t
  below : Below B w2 w
theorem FitSt.drew {B : Nat} {w2 : World} {t : Nat} {ov iv : Value} {O I : List Int} {w : World} (h : FitSt B w2 t ov iv O I w) : FitSt B w2 t ov iv O I w.drew := ⟨h.ge, h.blk.drew, h.own.below (belDrew w), h.ne0, h.ne1, h.below.drew⟩
theorem FitSt.below' {B : Nat} {w2 : World} {t : Nat} {ov iv : Value} {O I : List Int} {w w' : World} (h : FitSt B w2 t ov iv O I w) (hB : B ≤ w.heap.size) (hb : Below w.heap.size w w') : FitSt B w2 t ov iv O I w' := ⟨h.ge, h.blk.below hb, h.own.below hb, h.ne0, h.ne1, h.below.trans (hb.mono hB)⟩
theorem fitSt_alloc {B : Nat} {w2 w6 : World} {ov iv : Value} {O I : List Int} (hB : B ≤ w6.heap.size) (h : OwnP w6 B ov iv O I) (hb2 : Below B w2 w6) (T : TypeId) : FitSt B w2 w6.heap.size ov iv O I (w6.alloc (.cells #[ov, iv] T)) :=
  ⟨hB, Blk2.new _ _ _ _, h.below (belAlloc _ _), fun e => by have := (h.1.lt _ e).2; omega, fun e => by have := (h.2.1.lt _ e).2; omega, hb2.alloc hB _⟩
theorem own_ne {w w' : World} {B t : Nat} {v : Value} {X : List Int} (h : Own w B v X) (hg : w.grownBy w' (some t)) (hne : v.ownBlock ≠ some t) : Own w' B v X := h.kept hg (.inr hne)
theorem fitSt_store {B t : Nat} {w2 w6 : World} {ov iv u0 u1 : Value} {O I : List Int} (h : OwnP w6 B ov iv O I) (hb2 : Below B w2 w6) (ht : B ≤ t) (hblk : Blk2 w6 t u0 u1) (n0 : ov.ownBlock ≠ some t) (n1 : iv.ownBlock ≠ some t) : FitSt B w2 t ov iv O I ((w6.setCell ⟨t, 0, none⟩ ov).setCell ⟨t, 1, none⟩ iv) :=
  ⟨ht, hblk.set _ _, ⟨own_ne h.1 (grown2 w6 t ov iv) n0, own_ne h.2.1 (grown2 w6 t ov iv) n1, h.2.2⟩, n0, n1, hb2.trans (below2 w6 t ov iv ht)⟩
theorem ownP_low {w : World} {B t : Nat} {ov iv : Value} {O I : List Int} (h : OwnP w B ov iv O I) (ht : t < B) : ov.ownBlock ≠ some t ∧ iv.ownBlock ≠ some t := ⟨fun e => by have := (h.1.lt _ e).1; omega, fun e => by have := (h.2.1.lt _ e).1; omega⟩
theorem ownP_high {w : World} {B t : Nat} {ov iv : Value} {O I : List Int} (h : OwnP w B ov iv O I) (ht : w.heap.size ≤ t) : ov.ownBlock ≠ some t ∧ iv.ownBlock ≠ some t := ⟨fun e => by have := (h.1.lt _ e).2; omega, fun e => by have := (h.2.1.lt _ e).2; omega⟩

set_option maxRecDepth 100000 in
set_option maxHeartbeats 6400000 in
theorem fit_is (i0 i1 i2 i3 : Int) (cv dv lv : Value) (L : List Cu) (D : List (List Int)) (l : List Int) (n : Nat) (w : World) (hC : Custs w cv L) (hG : Grid w dv D) (hI : Ints w lv l) (hn : L.length + 1 = n) (hn2 : n ≤ 4096) (hl : l.length = n) (hD : ArcBd D) :
    Calls Try.prog 14 #[.agg #[.int .i64 i0, .int .i64 i1, .int .i64 i2, .int .i64 i3, cv, dv], lv] w (PriceOut w (outL D n (inL D n l)) (inL D n l)) := by
  obtain ⟨w1, ew, hb1, hsz1, hi⟩ := box_inst w (.int .i64 i0) (.int .i64 i1) (.int .i64 i2) (.int .i64 i3) cv dv
  obtain ⟨w2, ew2⟩ : ∃ w2, w1.alloc (.cells #[.slice none 0 0, .slice none 0 0] 31) = w2 := ⟨_, rfl⟩
  have hb2 : Below w1.heap.size w1 w2 := by rw [← ew2]; exact belAlloc _ _
  have hsz2 : w2.heap.size = w.heap.size + 1 + 1 := by rw [← ew2]; simp; omega
  have hlz : Blk2 w2 (w.heap.size + 1) (.slice none 0 0) (.slice none 0 0) := by rw [← ew2, ← hsz1]; exact Blk2.new _ _ _ _
  have hi := hi.below hb2
  obtain ⟨c0, c1, c2, c3, c4, c5⟩ := hi
  have Hpl := Lib.hid (fun (W : World) (h : Below w2.heap.size w2 W) => places_is i0 i1 i2 i3 cv dv L n W (((hC.below hb1).below hb2).below h) hn hn2)
  have Hze := Lib.hid (fun (W : World) (h : Below w2.heap.size w2 W) => zero_is i0 i1 i2 i3 cv dv L n W (((hC.below hb1).below hb2).below h) hn hn2)
  have Hb := Lib.hid (bel2 hb1 hb2)
  have HG := Lib.hid ((hG.below hb1).below hb2)
  have HI := Lib.hid ((hI.below hb1).below hb2)
  have Hew := Lib.hid ew
  have Hew2 := Lib.hid ew2
  have Hlz := Lib.hid hlz
  have l1 : w.heap.size < w2.heap.size := by omega
  have l2 : w.heap.size + 1 < w2.heap.size := by omega
  have hnp : 0 < n := by omega
  have Hl := Lib.hid hl
  have Hn2 := Lib.hid hn2
  have hn3 : (n : Int) ≤ 4096 := by omega
  clear ew ew2 hb1 hb2 hsz1 hsz2 hlz hn hC hG hI hl hn2
  go_enter Try.func14, Try.ntmps14
  go_upto_region 1 with (fail)
  rw [Hew.out, Hew2.out]
  generalize eg : w.heap.size = g at *
  have Heg := Lib.hid eg
  clear eg
  have Hbg : Hid (Below g w w2) := Lib.hid Hb.out
  have b0 := Below.refl w2.heap.size w2
  go_cut [5, 6] (fun s5 s6 wx => ∃ (t : Nat) (ov iv : Value), s5 = .pointer (some ⟨t, 0, none⟩) ∧ s6 = .int .i64 n ∧ FitSt w2.heap.size w2 t ov iv (List.replicate n 0) (List.replicate n 0) wx)
  case first =>
    go_region_held3 (fun w' => w'.cell? ⟨g, 0, none⟩ = some (.int .i64 i0) ∧ w'.cell? ⟨g, 1, none⟩ = some (.int .i64 i1) ∧ w'.cell? ⟨g, 2, none⟩ = some (.int .i64 i2) ∧ w'.cell? ⟨g, 3, none⟩ = some (.int .i64 i3) ∧ w'.cell? ⟨g, 4, none⟩ = some cv ∧ w'.cell? ⟨g, 5, none⟩ = some dv)
      (first | go_keep | exact six_below b5 ⟨c0, c1, c2, c3, c4, c5⟩ | exact six_below b6 ⟨c0, c1, c2, c3, c4, c5⟩ | exact six_below (b5.alloc b5.size _) ⟨c0, c1, c2, c3, c4, c5⟩ | exact six_below (b6.alloc b6.size _) ⟨c0, c1, c2, c3, c4, c5⟩ | exact six_below e8.below ⟨c0, c1, c2, c3, c4, c5⟩ | exact six_below e8a.below ⟨c0, c1, c2, c3, c4, c5⟩ | exact six_below e7.below ⟨c0, c1, c2, c3, c4, c5⟩ | exact six_below (fitSt_store hP6 b6 (by first | exact Nat.le_refl _ | exact b5.size) e9 n9.1 n9.2).below ⟨c0, c1, c2, c3, c4, c5⟩ | exact six_below (b6.drew) ⟨c0, c1, c2, c3, c4, c5⟩ | exact six_below (b5.drew) ⟨c0, c1, c2, c3, c4, c5⟩)
      (first
        | (go_at_call 24; refine (Hze.out _ ?_).mono ?_; (first | exact b0 | exact belDrew w2 | exact bel2 (belDrew w2) (belAlloc _ _) | exact bel2 (belAlloc w2 _) (belDrew _)); rintro e w5 ⟨ov, iv, rfl, hP5, hb5⟩; obtain ⟨go, co, gi, ci, rfl, rfl⟩ := hP5.form List.length_replicate List.length_replicate hnp; (first | have b5 := bel2 b0 hb5 | have b5 := bel2 (belDrew w2) hb5 | have b5 := bel2 (bel2 (belDrew w2) (belAlloc _ _)) hb5 | have b5 := bel2 (bel2 (belAlloc w2 _) (belDrew _)) hb5); have hQ5 := hP5.mono (show w2.heap.size ≤ _ by first | exact Nat.le_refl _ | (simp; done) | (simp; omega)); have e8a := fitSt_alloc b5.size hQ5 b5 31;
            (first | (have e9 := (Blk2.new w2 _ _ _).drew.below hb5; have n9 := ownP_low (t := w2.heap.size) hP5 (by simp); have e8 := fitSt_store hQ5 b5 (Nat.le_refl _) e9 n9.1 n9.2; obtain ⟨x0, x1, x2, x3⟩ := e9.cells; have x4 := e9.lt) | skip))
        | (go_at_call 46; refine (Hpl.out _ ?_).mono ?_; (first | exact b5 | exact bel2 b5 (belAlloc _ _) | exact bel2 b5 (belDrew _) | exact e8.below | exact e8a.below); rintro e w6 ⟨rfl, hb6⟩; (first | have b6 := bel2 b5 hb6 | have b6 := bel2 (bel2 b5 (belAlloc _ _)) hb6 | have b6 := bel2 (bel2 b5 (belDrew _)) hb6 | have b6 := e8.below.trans (hb6.mono e8.below.size) | have b6 := e8a.below.trans (hb6.mono e8a.below.size)); (first | have e7 := e8.below' e8.below.size hb6 | have e7 := e8a.below' e8a.below.size hb6 | skip);
            (first | have hP6 := hQ5.below hb6 | have hP6 := (hQ5.below (belAlloc _ _)).below hb6 | have hP6 := (hQ5.below (belDrew _)).below hb6 | skip); (first | (have e9 := e9.below hb6; obtain ⟨y0, y1, y2, y3⟩ := e9.cells; have y4 := e9.lt) | (have n9 := ownP_high (t := w5.heap.size) hP5 (Nat.le_refl _); have e9 := (Blk2.new w5 _ _ _).below hb6; obtain ⟨y0, y1, y2, y3⟩ := e9.cells; have y4 := e9.lt) | skip)))
    all_goals
      go_wp2_with fail
      go_meet
      first
        | exact ⟨_, _, _, rfl, rfl, e7⟩
        | exact ⟨_, _, _, rfl, rfl, e7.drew⟩
        | exact ⟨_, _, _, rfl, rfl, fitSt_alloc b6.size hP6 b6 _⟩
        | exact ⟨_, _, _, rfl, rfl, (fitSt_alloc b6.size hP6 b6 _).drew⟩
        | exact ⟨_, _, _, rfl, rfl, fitSt_store hP6 b6 (by first | exact Nat.le_refl _ | exact b5.size) e9 n9.1 n9.2⟩
        | exact ⟨_, _, _, rfl, rfl, (fitSt_store hP6 b6 (by first | exact Nat.le_refl _ | exact b5.size) e9 n9.1 n9.2).drew⟩
  case rest =>
    obtain ⟨tb, ov, iv, rfl, rfl, hs⟩ := hcut
    obtain ⟨w6, rfl⟩ : ∃ w6 : World, w6 = wc := ⟨_, rfl⟩
    obtain ⟨go, co, gi, ci, rfl, rfl⟩ := hs.own.form List.length_replicate List.length_replicate hnp
    obtain ⟨t0, t1, _, _⟩ := hs.blk.cells
    have hge := hs.ge
    have ltb := hs.blk.lt
    have hgi := hs.own.2.1.lt gi rfl
    have hgo := hs.own.1.lt go rfl
    have hn0 : ¬ go = tb := fun e => hs.ne0 (by simp [Value.ownBlock, e])
    have hn1 : ¬ gi = tb := fun e => hs.ne1 (by simp [Value.ownBlock, e])
    have hn2 : ¬ gi = go := fun e => hs.own.2.2 go rfl (by simp [Value.ownBlock, e])
    obtain ⟨hgi1, hgi2⟩ := hgi
    obtain ⟨hgo1, hgo2⟩ := hgo
    have HO6 := Lib.hid hs.own.1
    have HI6 := Lib.hid hs.own.2.1
    have Hb6 := Lib.hid hs.below
    have HIl := Lib.hid (HI.out.below hs.below)
    clear hs
    go_wp2_with (with_reducible refine wpList_copyInts rfl (.tmp 15) (.tmp 16) rfl w6 w2.heap.size gi n ci (List.replicate n 0) l lv rfl rfl HI6.out HIl.out Hl.out hnp ?_)
    intro w7 hown7 hg7
    have g0 := hg7.cell (cell_lt Hb6.out l1 c0) (by simp; omega)
    have g1 := hg7.cell (cell_lt Hb6.out l1 c1) (by simp; omega)
    have g2 := hg7.cell (cell_lt Hb6.out l1 c2) (by simp; omega)
    have g3 := hg7.cell (cell_lt Hb6.out l1 c3) (by simp; omega)
    have g4 := hg7.cell (cell_lt Hb6.out l1 c4) (by simp; omega)
    have g5 := hg7.cell (cell_lt Hb6.out l1 c5) (by simp; omega)
    have t07 := hg7.cell t0 (by simp; omega)
    have t17 := hg7.cell t1 (by simp; omega)
    have hs7 := hg7.size
    have HO7 := Lib.hid (own_ne HO6.out hg7 (by simp [Value.ownBlock]; omega))
    have HI7 := Lib.hid hown7
    have Hb7 := Lib.hid (Hb6.out.grown hg7 (by omega) (by intro k hk; simp at hk; omega))
    obtain ⟨w8, ew8, hb8, hsz8, hrd⟩ := box_reader w7 (.int .i64 i0) (.int .i64 i1) (.int .i64 i2) (.int .i64 i3) cv dv (.slice (some ⟨gi, 0, none⟩) n ci)
    have Hew8 := Lib.hid ew8
    have t08 := cell_below hb8 t07
    have t18 := cell_below hb8 t17
    have HO8 := Lib.hid (HO7.out.below hb8)
    have HI8 := Lib.hid (HI7.out.below hb8)
    have Hb8 := Lib.hid (Hb7.out.trans (hb8.mono (by omega)))
    have Hrd := Lib.hid hrd
    have hgr : gi < w7.heap.size := by omega
    have hgr2 : go < w7.heap.size := by omega
    have hgr3 : tb < w7.heap.size := by omega
    have hgr4 : w2.heap.size ≤ w8.heap.size := by omega
    have Hk : Hid (l = turnL n (inI D n l) (nth l) 0) := Lib.hid (turnL_zero n _ _ l Hl.out (fun _ _ => rfl))
    clear hown7 hg7 ew8 hb8 hrd t0 t1 c0 c1 c2 c3 c4 c5
    go_upto_region 4 with (fail)
    rw [Hew8.out]
    generalize w7.heap.size = gr at *
    clear g0 g1 g2 g3 g4 g5 t07 t17
    go_wp2_with fail
    go_loopw [8, 24] (fun b i wr => ∃ (k : Nat) (u : Value), i = .int .i64 k ∧ u = b ∧ k ≤ n ∧ Own wr w2.heap.size (.slice (some ⟨gi, 0, none⟩) n ci) (turnL n (inI D n l) (nth l) k) ∧ w8.grownBy wr (some gi)) (fun _ i _ => n - (intOf i).toNat)
    case atStart => exact ⟨0, _, rfl, rfl, Nat.zero_le _, by rw [← Hk.out]; exact HI8.out, ⟨rfl, rfl, rfl, Nat.le_refl _, fun _ _ _ => rfl⟩⟩
    case round =>
      obtain ⟨k, u, rfl, rfl, hk, hown, hg⟩ := hrel
      have t0r := hg.cell t08 (by simp; omega)
      have t1r := hg.cell t18 (by simp; omega)
      have hsr := hg.size
      have hrr := Lib.hid (Hrd.out.kept hg (by simp; omega))
      have hbr := Hb8.out.grown hg hgr4 (by intro k hk; simp at hk; omega)
      have Hbr := Lib.hid hbr
      have HGr := Lib.hid (HG.out.below hbr)
      have HOr := Lib.hid (own_ne HO8.out hg (by simp [Value.ownBlock]; omega))
      have Hg := Lib.hid hg
      by_cases hlt : k < n
      · obtain ⟨g9, c9, hv9, _, _, _, hcell⟩ := hown.out (by rw [turnL_len]; exact hnp)
        simp only [Value.slice.injEq, Option.some.injEq, Addr.mk.injEq, and_true] at hv9
        obtain ⟨rfl, hv1, hv2⟩ := hv9
        obtain ⟨f0, f1⟩ := hcell k (by rw [turnL_len]; exact hlt)
        rw [Nat.zero_add] at f0 f1
        rw [nth_turnL _ _ _ _ _ hlt, if_neg (Nat.lt_irrefl k)] at f0
        have Hle := Lib.hid (fun (W : World) (h : Below wr.heap.size wr W) => leastCome_is gr n k (fun a => arcI D a k) W (fun w' j hb' hj hne => come_is gr i0 i1 i2 i3 cv dv _ D k j w' (hrr.out.below (bel2 h hb')) (HGr.out.below (bel2 h hb'))) Hn2.out)
        have Hset := Lib.hid (turnL_set n (inI D n l) (nth l) k hlt)
        have Hv : Hid (inI D n l k = clipI (nth l k) 0 (leastI n k (fun a => arcI D a k))) := Lib.hid rfl
        have Hown := Lib.hid hown
        generalize leastI n k (fun a => arcI D a k) = LV at *
        generalize nth l k = X at *
        have hi0 : (0 : Int) ≤ (k : Int) := by omega
        have hi1 : (k : Int) < (n : Int) := by omega
        have hgir : gi < wr.heap.size := by omega
        have b00 := Below.refl wr.heap.size wr
        clear hown hg hcell hv1 hv2 hbr
        go_wp2_with fail
        go_region_law (first
          | (refine step_wanted (by rfl) ?_; go_simp; go_at_call 48; refine (Hle.out _ ?_).mono ?_; (first | exact b00 | exact belDrew wr); rintro e w9 ⟨rfl, hb9⟩; (first | have b9 := bel2 b00 hb9 | have b9 := bel2 (belDrew wr) hb9); have t19 := cell_below b9 t1r; have f09 := cell_below b9 f0; have f19 := frozen_below b9 hgir f1)
          | (refine step_wanted (by rfl) ?_; go_simp; go_at_call 47; refine (clip_is _ _ _ _).mono ?_; rintro e w' ⟨rfl, rfl⟩))
        all_goals
          go_wp2_with fail
          go_roundw
          case rel =>
            have o9 := (Hown.out.below b9).set k (clipI X 0 LV) (by rw [turnL_len]; exact hlt)
            rw [Nat.zero_add, ← Hv.out, Hset.out, Hv.out] at o9
            exact ⟨k + 1, _, by go_num, rfl, by omega, (by first | exact o9 | exact o9.below (belDrew _)), (by first | exact grownBy_trans (grownBy_trans Hg.out (grownBy_below b9)) (grownBy_setCell w9 ⟨gi, k, none⟩ _) | exact grownBy_trans (grownBy_trans (grownBy_trans Hg.out (grownBy_below b9)) (grownBy_setCell w9 ⟨gi, k, none⟩ _)) (grownBy_below (belDrew _)))⟩
          case measure => simp [intOf]; omega
      · have hkn : k = n := by omega
        subst hkn
        rw [turnL_all] at hown
        have HIr := Lib.hid hown
        obtain ⟨wo, rfl⟩ : ∃ wo : World, wo = wr := ⟨_, rfl⟩
        have Hk2 : Hid (List.replicate k 0 = turnL k (outI D k (inL D k l)) (fun _ => 0) 0) := Lib.hid (turnL_zero k _ _ _ List.length_replicate (fun j hj => by rw [nth_lt (by simpa using hj)]; simp))
        have hs2 : w2.heap.size ≤ wo.heap.size := by omega
        clear hown hg hbr hlt hk
        go_wp2_with fail
        go_loopw [9, 44] (fun b i wr => ∃ (j : Nat) (u : Value), i = .int .i64 j ∧ u = b ∧ j ≤ k ∧ Own wr w2.heap.size (.slice (some ⟨go, 0, none⟩) k co) (turnL k (outI D k (inL D k l)) (fun _ => 0) j) ∧ wo.grownBy wr (some go)) (fun _ i _ => k - (intOf i).toNat)
        case atStart => exact ⟨0, _, rfl, rfl, Nat.zero_le _, by rw [← Hk2.out]; exact HOr.out, ⟨rfl, rfl, rfl, Nat.le_refl _, fun _ _ _ => rfl⟩⟩
        case round =>
          obtain ⟨j, u, rfl, rfl, hj, hown, hg⟩ := hrel
          have t0q := hg.cell t0r (by simp; omega)
          have t1q := hg.cell t1r (by simp; omega)
          have hsq := hg.size
          have hrq := Lib.hid (hrr.out.kept hg (by simp; omega))
          have Hbq := Lib.hid (Hbr.out.grown hg hs2 (by intro k hk; simp at hk; omega))
          have HGq := Lib.hid (HG.out.below Hbq.out)
          have HIq := Lib.hid (own_ne HIr.out hg (by simp [Value.ownBlock]; omega))
          have Hgq := Lib.hid hg
          by_cases hlt : j < k
          · obtain ⟨g9, c9, hv9, _, _, _, hcell⟩ := hown.out (by rw [turnL_len]; omega)
            simp only [Value.slice.injEq, Option.some.injEq, Addr.mk.injEq, and_true] at hv9
            obtain ⟨rfl, hv1, hv2⟩ := hv9
            obtain ⟨f0, f1⟩ := hcell j (by rw [turnL_len]; exact hlt)
            rw [Nat.zero_add] at f0 f1
            have Hle := Lib.hid (fun (W : World) (h : Below wr.heap.size wr W) => leastLeave_is gr k j (fun b => arcI D j b - nth (inL D k l) b) W (fun w' i hb' hi hne => leave_is gr i0 i1 i2 i3 cv dv _ D (inL D k l) j i w' (hrq.out.below (bel2 h hb')) (HGq.out.below (bel2 h hb')) (HIq.out.ints.below (bel2 h hb')) (by rw [inL_len]; exact hi) hD (fun i => by have := nth_in_bd hD k l i; omega)) Hn2.out)
            have Hset := Lib.hid (turnL_set k (outI D k (inL D k l)) (fun _ => 0) j hlt)
            have Hv : Hid (outI D k (inL D k l) j = leastI k j (fun b => arcI D j b - nth (inL D k l) b)) := Lib.hid rfl
            have Hown := Lib.hid hown
            generalize leastI k j (fun b => arcI D j b - nth (inL D k l) b) = LV at *
            have hi0 : (0 : Int) ≤ (j : Int) := by omega
            have hi1 : (j : Int) < (k : Int) := by omega
            have hgir : go < wr.heap.size := by omega
            have b00 := Below.refl wr.heap.size wr
            clear hown hg hcell hv1 hv2
            go_wp2_with fail
            go_region_law (first
              | (refine step_wanted (by rfl) ?_; go_simp; go_at_call 48; refine (Hle.out _ ?_).mono ?_; (first | exact b00 | exact belDrew wr); rintro e w9 ⟨rfl, hb9⟩; (first | have b9 := bel2 b00 hb9 | have b9 := bel2 (belDrew wr) hb9); have t09 := cell_below b9 t0q; have f09 := cell_below b9 f0; have f19 := frozen_below b9 hgir f1))
            all_goals
              go_wp2_with fail
              go_roundw
              case rel =>
                have o9 := (Hown.out.below b9).set j LV (by rw [turnL_len]; exact hlt)
                rw [Nat.zero_add, ← Hv.out, Hset.out, Hv.out] at o9
                exact ⟨j + 1, _, by go_num, rfl, by omega, (by first | exact o9 | exact o9.below (belDrew _)), (by first | exact grownBy_trans (grownBy_trans Hgq.out (grownBy_below b9)) (grownBy_setCell w9 ⟨go, j, none⟩ _) | exact grownBy_trans (grownBy_trans (grownBy_trans Hgq.out (grownBy_below b9)) (grownBy_setCell w9 ⟨go, j, none⟩ _)) (grownBy_below (belDrew _)))⟩
              case measure => simp [intOf]; omega
          · have hjk : j = k := by omega
            subst hjk
            rw [turnL_all] at hown
            have HOq := Lib.hid hown
            have hz := Hlz.out
            have hzl := (Hlz.out.lies.lower Hbq.out l2)
            have Hzl := Lib.hid hzl
            have z0 := hzl.at 0 _ rfl
            have z1 := hzl.at 1 _ rfl
            have z2 := frozen_lt Hbq.out l2 hz.f0
            have z3 := frozen_lt Hbq.out l2 hz.f1
            clear hown hg hz hzl hlt hj
            go_wp2_with fail
            have q := set2 Hzl.out (.slice (some ⟨go, 0, none⟩) j co) (.slice (some ⟨gi, 0, none⟩) j ci)
            have q0 := q.at 0 _ rfl
            have q1 := q.at 1 _ rfl
            have hP : OwnP wr w2.heap.size (.slice (some ⟨go, 0, none⟩) j co) (.slice (some ⟨gi, 0, none⟩) j ci) (outL D j (inL D j l)) (inL D j l) := ⟨HOq.out, HIq.out, fun x hx e => by simp [Value.ownBlock] at hx e; omega⟩
            refine bodyPost_ret (v := .agg #[.slice (some ⟨go, 0, none⟩) j co, .slice (some ⟨gi, 0, none⟩) j ci]) (by simp [results, Try.results14, go_sem, q0, q1]) rfl ⟨_, _, rfl, ?_, ?_⟩
            · rw [Heg.out]
              exact (hP.kept (grown2 wr (g + 1) _ _) (fun x hx => by cases hx; exact l2)).mono (by omega)
            · rw [Heg.out]
              exact Hbg.out.trans ((Hbq.out.mono (by omega)).trans (below2 wr (g + 1) _ _ (by omega)))
end Go.Proofs.Ythilfibgpobcjaa
