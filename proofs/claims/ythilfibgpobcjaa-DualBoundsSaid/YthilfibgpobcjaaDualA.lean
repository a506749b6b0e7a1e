/-
  My own work: dual.places, come, leave, least, Zero: their contracts.
-/
import Derived.Test.YthilfibgpobcjaaDualPl
import Derived.Test.YthilfibgpobcjaaOwnCopy
import Derived.IntWalk
import Derived.Deep.OwnRows
namespace Go.Proofs.Ythilfibgpobcjaa
open Go.RowKit
set_option linter.unusedVariables false
attribute [local go_sem ↓] Go.wp_at_zero Go.wp_at_succ

theorem places_is (i0 i1 i2 i3 : Int) (cv dv : Value) (L : List Cu) (n : Nat) (w : World) (h : Custs w cv L) (hn : L.length + 1 = n) (hn2 : n ≤ 4096) :
    Calls Try.prog 46 #[.agg #[.int .i64 i0, .int .i64 i1, .int .i64 i2, .int .i64 i3, cv, dv]] w fun e w' => e = .returned (.int .i64 n) ∧ Below w.heap.size w w' := by
  obtain ⟨w1, ew, hb1, hsz1, hi⟩ := box_inst w (.int .i64 i0) (.int .i64 i1) (.int .i64 i2) (.int .i64 i3) cv dv
  obtain ⟨a, m, c, rfl, hm, _, _⟩ := h.open
  have Hew := Lib.hid ew
  have c4 := hi.c4
  have hm2 : m ≤ 4096 := by omega
  have Hn : Hid ((n : Int) = (m : Int) + 1) := Lib.hid (by omega)
  clear ew hm hi hsz1 h hn hn2
  go_enter Try.func46, Try.ntmps46
  go_upto_region 1 with (fail)
  rw [Hew.out]
  go_wp2_with fail
  go_ret
  rw [Hn.out]
  exact ⟨rfl, hb1⟩

/-- The reader of an instance lies in block g. -/
structure IsReader (w : World) (g : Nat) (f0 f1 f2 f3 cv dv iv : Value) : Prop where
  c0 : w.cell? ⟨g, 0, none⟩ = some f0
  c1 : w.cell? ⟨g, 1, none⟩ = some f1
  c2 : w.cell? ⟨g, 2, none⟩ = some f2
  c3 : w.cell? ⟨g, 3, none⟩ = some f3
  c4 : w.cell? ⟨g, 4, none⟩ = some cv
  c5 : w.cell? ⟨g, 5, none⟩ = some dv
  c6 : w.cell? ⟨g, 6, none⟩ = some iv
theorem IsReader.kept {w w' : World} {g : Nat} {f0 f1 f2 f3 cv dv iv : Value} {row : Option Nat} (h : IsReader w g f0 f1 f2 f3 cv dv iv) (hg : w.grownBy w' row) (hne : some g ≠ row) : IsReader w' g f0 f1 f2 f3 cv dv iv :=
  ⟨hg.cell h.c0 hne, hg.cell h.c1 hne, hg.cell h.c2 hne, hg.cell h.c3 hne, hg.cell h.c4 hne, hg.cell h.c5 hne, hg.cell h.c6 hne⟩
theorem IsReader.below {w w' : World} {g : Nat} {f0 f1 f2 f3 cv dv iv : Value} (h : IsReader w g f0 f1 f2 f3 cv dv iv) (hb : Below w.heap.size w w') : IsReader w' g f0 f1 f2 f3 cv dv iv := h.kept (row := none) (grownBy_below hb) (by simp)
theorem box_reader (w : World) (f0 f1 f2 f3 cv dv iv : Value) :
    ∃ w1, w.alloc (.cells #[f0, f1, f2, f3, cv, dv, iv] 77) = w1 ∧ Below w.heap.size w w1 ∧ w1.heap.size = w.heap.size + 1 ∧ IsReader w1 w.heap.size f0 f1 f2 f3 cv dv iv :=
  ⟨_, rfl, (Below.refl _ _).alloc (Nat.le_refl _) _, by simp, ⟨by simp [go_sem], by simp [go_sem], by simp [go_sem], by simp [go_sem], by simp [go_sem], by simp [go_sem], by simp [go_sem]⟩⟩
theorem IsReader.lt {w : World} {g : Nat} {f0 f1 f2 f3 cv dv iv : Value} (h : IsReader w g f0 f1 f2 f3 cv dv iv) : g < w.heap.size := World.block_lt_of_cell? w _ h.c0

set_option maxHeartbeats 800000 in
theorem come_is (gr : Nat) (i0 i1 i2 i3 : Int) (cv dv iv : Value) (D : List (List Int)) (b a : Int) (w : World) (hr : IsReader w gr (.int .i64 i0) (.int .i64 i1) (.int .i64 i2) (.int .i64 i3) cv dv iv) (hd : Grid w dv D) :
    Calls Try.prog 49 #[.pointer (some ⟨gr, 0, none⟩), .int .i64 b, .int .i64 a] w fun e w' => e = .returned (.int .i64 (arcI D a b)) ∧ Below w.heap.size w w' := by
  obtain ⟨c0, c1, c2, c3, c4, c5, c6⟩ := hr
  have H := Lib.hid (arc_is i0 i1 i2 i3 cv dv D a b w hd)
  clear hd
  go_enter Try.func49, Try.ntmps49
  go_wp2_with fail
  refine H.out.mono ?_
  rintro e w1 ⟨rfl, hb1⟩
  go_wp2_with fail
  go_ret
  exact ⟨rfl, hb1⟩

set_option maxHeartbeats 1600000 in
theorem leave_is (gr : Nat) (i0 i1 i2 i3 : Int) (cv dv iv : Value) (D : List (List Int)) (q : List Int) (a b : Nat) (w : World) (hr : IsReader w gr (.int .i64 i0) (.int .i64 i1) (.int .i64 i2) (.int .i64 i3) cv dv iv) (hd : Grid w dv D) (hq : Ints w iv q) (hb : b < q.length)
    (hD : ArcBd D) (hqb : ∀ k, 0 ≤ nth q k ∧ nth q k ≤ 1000000) :
    Calls Try.prog 50 #[.pointer (some ⟨gr, 0, none⟩), .int .i64 a, .int .i64 b] w fun e w' => e = .returned (.int .i64 (arcI D a b - nth q b)) ∧ Below w.heap.size w w' := by
  obtain ⟨c0, c1, c2, c3, c4, c5, c6⟩ := hr
  obtain ⟨ia, m, ic, rfl, hm, hmm, hcell⟩ := hq.open
  obtain ⟨ib, io, rfl, hc⟩ := hcell b (by omega)
  have hbd := hD a b
  have hqd := hqb b
  obtain ⟨hx1, hx2⟩ := hbd
  obtain ⟨hy1, hy2⟩ := hqd
  have hi0 : (0 : Int) ≤ (b : Int) := by omega
  have hi1 : (b : Int) < (m : Int) := by omega
  have Harc := Lib.hid (fun (w' : World) (h : Below w.heap.size w w') => arc_is i0 i1 i2 i3 cv dv D a b w' (hd.below h))
  generalize arcI D a b = X at *
  generalize nth q b = Y at *
  have hb0 := Below.refl w.heap.size w
  have hwr : IntKind.i64.wrap (X - Y) = X - Y := IntWalk.i64_in _ (by omega)
  clear hcell hm hq hd hb hD hqb
  go_enter Try.func50, Try.ntmps50
  go_wp2_with fail
  go_region_held3 (fun w' => w'.cell? ⟨gr, 0, none⟩ = some (.int .i64 i0) ∧ w'.cell? ⟨gr, 1, none⟩ = some (.int .i64 i1) ∧ w'.cell? ⟨gr, 2, none⟩ = some (.int .i64 i2) ∧ w'.cell? ⟨gr, 3, none⟩ = some (.int .i64 i3) ∧ w'.cell? ⟨gr, 4, none⟩ = some cv ∧ w'.cell? ⟨gr, 5, none⟩ = some dv ∧
      w'.cell? ⟨gr, 6, none⟩ = some (.slice (some ⟨ib, io, none⟩) m ic) ∧ w'.cell? ⟨ib, io + b, none⟩ = some (.int .i64 Y))
    (first | go_keep | exact ⟨cell_below (by assumption) c0, cell_below (by assumption) c1, cell_below (by assumption) c2, cell_below (by assumption) c3, cell_below (by assumption) c4, cell_below (by assumption) c5, cell_below (by assumption) c6, cell_below (by assumption) hc⟩)
    (first | (go_at_call 52; refine (Harc.out _ ?_).mono ?_; (first | exact hb0 | exact belDrew w); rintro e w5 ⟨rfl, hb5⟩; (first | have b5 := bel2 (belDrew w) hb5 | have b5 := bel2 hb0 hb5)))
  all_goals
    go_wp2_with fail
    go_ret
    exact ⟨rfl, by first | exact b5 | exact b5.drew⟩

set_option maxRecDepth 100000 in
set_option maxHeartbeats 1600000 in
theorem leastCome_is (gr n p : Nat) (f : Nat → Int) (w : World) (hf : ∀ (w' : World) (k : Nat), Below w.heap.size w w' → k < n → k ≠ p → Calls Try.prog 49 #[.pointer (some ⟨gr, 0, none⟩), .int .i64 p, .int .i64 k] w' fun e w'' => e = .returned (.int .i64 (f k)) ∧ Below w'.heap.size w' w'')
    (hn : n ≤ 4096) :
    Calls Try.prog 48 #[.int .i64 n, .int .i64 p, .func (.func 49) #[.pointer (some ⟨gr, 0, none⟩)] #[]] w fun e w' => e = .returned (.int .i64 (leastI n p f)) ∧ Below w.heap.size w w' := by
  have Hf := Lib.hid hf
  clear hf
  go_enter Try.func48, Try.ntmps48
  go_wp2_with fail
  go_loopw [7, 8, 9, 10, 12] (fun b fd o wv i wr => ∃ (k : Nat) (x y : Value) (B : Int) (F : Bool), i = .int .i64 k ∧ x = o ∧ y = wv ∧ k ≤ n ∧ b = .int .i64 B ∧ fd = .bool F ∧ (B, F) = lup p f k ∧ Below w.heap.size w wr) (fun _ _ _ _ i _ => n - (intOf i).toNat)
  case atStart => exact ⟨0, _, _, 0, false, rfl, rfl, rfl, Nat.zero_le _, rfl, rfl, rfl, Below.refl _ _⟩
  case round =>
    obtain ⟨k, x, y, B, F, rfl, rfl, rfl, hk, rfl, rfl, hbf, hb⟩ := hrel
    by_cases hlt : k < n
    · have hi1 : (k : Int) < (n : Int) := by omega
      by_cases hkp : k = p
      · have Hs := Lib.hid (lup_here p f k hkp)
        subst hkp
        have Hbf := Lib.hid hbf
        have h1 : ((k : Int) == (k : Int)) = true := by simp
        clear hbf
        go_wp2_with fail
        go_roundw
        case rel => exact ⟨k + 1, _, _, B, F, by go_num, rfl, rfl, by omega, rfl, rfl, by rw [Hs.out]; exact Hbf.out, hb⟩
        case measure => simp [intOf]; omega
      · have hst := lup_step p f k hkp
        rw [← hbf] at hst
        have Hst := Lib.hid hst
        have Hc := Lib.hid (Hf.out wr k hb hlt hkp)
        have h1 : ((k : Int) == (p : Int)) = false := by simp; omega
        generalize f k = Y at *
        clear hbf hst hkp
        go_wp2_with fail
        refine Hc.out.mono ?_
        rintro e w2 ⟨rfl, hb2⟩
        have hb3 := hb.trans (hb2.mono hb.size)
        clear hb hb2
        cases F with
        | false =>
          have h2 := Hst.out
          rw [if_pos (.inl rfl)] at h2
          have H2 := Lib.hid h2
          clear h2
          go_wp2_with fail
          go_roundw
          case rel => exact ⟨k + 1, _, _, Y, true, by go_num, rfl, rfl, by omega, rfl, rfl, H2.out.symm, hb3⟩
          case measure => simp [intOf]; omega
        | true =>
          by_cases hY : Y < B
          · have h2 := Hst.out
            rw [if_pos (.inr hY)] at h2
            have H2 := Lib.hid h2
            have h3 : decide (Y < B) = true := by simpa using hY
            clear h2 hY
            go_wp2_with fail
            go_roundw
            case rel => exact ⟨k + 1, _, _, Y, true, by go_num, rfl, rfl, by omega, rfl, rfl, H2.out.symm, hb3⟩
            case measure => simp [intOf]; omega
          · have h2 := Hst.out
            rw [if_neg (by simp; omega)] at h2
            have H2 := Lib.hid h2
            have h3 : decide (Y < B) = false := by simpa using hY
            clear h2 hY
            go_wp2_with fail
            go_roundw
            case rel => exact ⟨k + 1, _, _, B, true, by go_num, rfl, rfl, by omega, rfl, rfl, H2.out.symm, hb3⟩
            case measure => simp [intOf]; omega
    · have hkn : k = n := by omega
      subst hkn
      have Hr : Hid (leastI k p f = B) := Lib.hid (by unfold leastI; rw [← hbf])
      clear hbf
      go_wp2_with fail
      go_ret
      rw [Hr.out]
      exact ⟨rfl, hb⟩

set_option maxRecDepth 100000 in
set_option maxHeartbeats 1600000 in
theorem leastLeave_is (gr n p : Nat) (f : Nat → Int) (w : World) (hf : ∀ (w' : World) (k : Nat), Below w.heap.size w w' → k < n → k ≠ p → Calls Try.prog 50 #[.pointer (some ⟨gr, 0, none⟩), .int .i64 p, .int .i64 k] w' fun e w'' => e = .returned (.int .i64 (f k)) ∧ Below w'.heap.size w' w'')
    (hn : n ≤ 4096) :
    Calls Try.prog 48 #[.int .i64 n, .int .i64 p, .func (.func 50) #[.pointer (some ⟨gr, 0, none⟩)] #[]] w fun e w' => e = .returned (.int .i64 (leastI n p f)) ∧ Below w.heap.size w w' := by
  have Hf := Lib.hid hf
  clear hf
  go_enter Try.func48, Try.ntmps48
  go_wp2_with fail
  go_loopw [7, 8, 9, 10, 12] (fun b fd o wv i wr => ∃ (k : Nat) (x y : Value) (B : Int) (F : Bool), i = .int .i64 k ∧ x = o ∧ y = wv ∧ k ≤ n ∧ b = .int .i64 B ∧ fd = .bool F ∧ (B, F) = lup p f k ∧ Below w.heap.size w wr) (fun _ _ _ _ i _ => n - (intOf i).toNat)
  case atStart => exact ⟨0, _, _, 0, false, rfl, rfl, rfl, Nat.zero_le _, rfl, rfl, rfl, Below.refl _ _⟩
  case round =>
    obtain ⟨k, x, y, B, F, rfl, rfl, rfl, hk, rfl, rfl, hbf, hb⟩ := hrel
    by_cases hlt : k < n
    · have hi1 : (k : Int) < (n : Int) := by omega
      by_cases hkp : k = p
      · have Hs := Lib.hid (lup_here p f k hkp)
        subst hkp
        have Hbf := Lib.hid hbf
        have h1 : ((k : Int) == (k : Int)) = true := by simp
        clear hbf
        go_wp2_with fail
        go_roundw
        case rel => exact ⟨k + 1, _, _, B, F, by go_num, rfl, rfl, by omega, rfl, rfl, by rw [Hs.out]; exact Hbf.out, hb⟩
        case measure => simp [intOf]; omega
      · have hst := lup_step p f k hkp
        rw [← hbf] at hst
        have Hst := Lib.hid hst
        have Hc := Lib.hid (Hf.out wr k hb hlt hkp)
        have h1 : ((k : Int) == (p : Int)) = false := by simp; omega
        generalize f k = Y at *
        clear hbf hst hkp
        go_wp2_with fail
        refine Hc.out.mono ?_
        rintro e w2 ⟨rfl, hb2⟩
        have hb3 := hb.trans (hb2.mono hb.size)
        clear hb hb2
        cases F with
        | false =>
          have h2 := Hst.out
          rw [if_pos (.inl rfl)] at h2
          have H2 := Lib.hid h2
          clear h2
          go_wp2_with fail
          go_roundw
          case rel => exact ⟨k + 1, _, _, Y, true, by go_num, rfl, rfl, by omega, rfl, rfl, H2.out.symm, hb3⟩
          case measure => simp [intOf]; omega
        | true =>
          by_cases hY : Y < B
          · have h2 := Hst.out
            rw [if_pos (.inr hY)] at h2
            have H2 := Lib.hid h2
            have h3 : decide (Y < B) = true := by simpa using hY
            clear h2 hY
            go_wp2_with fail
            go_roundw
            case rel => exact ⟨k + 1, _, _, Y, true, by go_num, rfl, rfl, by omega, rfl, rfl, H2.out.symm, hb3⟩
            case measure => simp [intOf]; omega
          · have h2 := Hst.out
            rw [if_neg (by simp; omega)] at h2
            have H2 := Lib.hid h2
            have h3 : decide (Y < B) = false := by simpa using hY
            clear h2 hY
            go_wp2_with fail
            go_roundw
            case rel => exact ⟨k + 1, _, _, B, true, by go_num, rfl, rfl, by omega, rfl, rfl, H2.out.symm, hb3⟩
            case measure => simp [intOf]; omega
    · have hkn : k = n := by omega
      subst hkn
      have Hr : Hid (leastI k p f = B) := Lib.hid (by unfold leastI; rw [← hbf])
      clear hbf
      go_wp2_with fail
      go_ret
      rw [Hr.out]
      exact ⟨rfl, hb⟩

theorem own_made_new (W : World) (N : Nat) (T : TypeId) (hT : T = 3) (hN : N ≤ 65536) : Own (W.alloc (.cells (madeCells #[.int .i64 0] N) T)) W.heap.size (.slice (some ⟨W.heap.size, 0, none⟩) N N) (List.replicate N 0) := by
  subst hT
  unfold Own
  refine ⟨by simp, .inr ⟨W.heap.size, N, madeCells #[.int .i64 0] N, by rw [List.length_replicate], Nat.le_refl _, by simp only [World.alloc]; exact Array.getElem?_push_size, Nat.le_of_eq List.length_replicate, by simp only [maxLen]; omega, ?_, ?_⟩⟩
  · have := congrArg List.length (toList_madeCells_one (.int .i64 0) N)
    simpa using this
  · rw [toList_madeCells_one]
    simp [List.take_replicate]

theorem set2_size (w : World) (g : Nat) (u0 u1 : Value) : ((w.setCell ⟨g, 0, none⟩ u0).setCell ⟨g, 1, none⟩ u1).heap.size = w.heap.size := by simp [World.setCell]
theorem zero_own {C : World} {S : Nat} (hS : C.heap.size = S) (n : Nat) (hn : n ≤ 4096) :
    OwnP ((C.alloc (.cells (madeCells #[.int .i64 0] n) 3)).alloc (.cells (madeCells #[.int .i64 0] n) 3)).drew S (.slice (some ⟨S, 0, none⟩) n n) (.slice (some ⟨S + 1, 0, none⟩) n n) (List.replicate n 0) (List.replicate n 0) ∧
    OwnP ((C.alloc (.cells (madeCells #[.int .i64 0] n) 3)).alloc (.cells (madeCells #[.int .i64 0] n) 3)).drew S (.slice (some ⟨S + 1, 0, none⟩) n n) (.slice (some ⟨S, 0, none⟩) n n) (List.replicate n 0) (List.replicate n 0) := by
  subst hS
  have h1 := own_made_new C n _ rfl (by omega)
  have h2 := own_made_new (C.alloc (.cells (madeCells #[.int .i64 0] n) 3)) n _ rfl (by omega)
  have hs : (C.alloc (.cells (madeCells #[.int .i64 0] n) 3)).heap.size = C.heap.size + 1 := by simp
  rw [hs] at h2
  have a1 := (h1.below (belAlloc _ (.cells (madeCells #[.int .i64 0] n) 3))).below (belDrew _)
  have a2 := (h2.below (belDrew _)).mono (Nat.le_succ _)
  exact ⟨⟨a1, a2, fun k hk e => by simp [Value.ownBlock] at hk e; omega⟩, ⟨a2, a1, fun k hk e => by simp [Value.ownBlock] at hk e; omega⟩⟩

set_option maxRecDepth 100000 in
set_option maxHeartbeats 1600000 in
theorem zero_is (i0 i1 i2 i3 : Int) (cv dv : Value) (L : List Cu) (n : Nat) (w : World) (h : Custs w cv L) (hn : L.length + 1 = n) (hn2 : n ≤ 4096) :
    Calls Try.prog 24 #[.agg #[.int .i64 i0, .int .i64 i1, .int .i64 i2, .int .i64 i3, cv, dv]] w (PriceOut w (List.replicate n 0) (List.replicate n 0)) := by
  obtain ⟨w1, ew, hb1, hsz1, hi⟩ := box_inst w (.int .i64 i0) (.int .i64 i1) (.int .i64 i2) (.int .i64 i3) cv dv
  obtain ⟨w2, ew2⟩ : ∃ w2, w1.alloc (.cells #[.slice none 0 0, .slice none 0 0] 31) = w2 := ⟨_, rfl⟩
  have hb2 : Below w1.heap.size w1 w2 := by rw [← ew2]; exact belAlloc _ _
  have hsz2 : w2.heap.size = w.heap.size + 1 + 1 := by rw [← ew2]; simp; omega
  have hlz : Lies w2 (w.heap.size + 1) [.slice none 0 0, .slice none 0 0] := by rw [← ew2, ← hsz1]; exact Lies.new w1 [_, _] _
  have hfz : ∀ j, w2.frozen? ⟨w.heap.size + 1, j, none⟩ = false := fun j => by rw [← ew2, ← hsz1]; simp [go_sem]
  have hi := hi.below hb2
  obtain ⟨c0, c1, c2, c3, c4, c5⟩ := hi
  have Hpl := Lib.hid (places_is i0 i1 i2 i3 cv dv L n w2 ((h.below hb1).below hb2) hn hn2)
  have Hb := Lib.hid (bel2 hb1 hb2)
  have Hew := Lib.hid ew
  have Hew2 := Lib.hid ew2
  have Hlz := Lib.hid hlz
  have Hfz := Lib.hid hfz
  have Hsz := Lib.hid hsz2
  have hn3 : (n : Int) ≤ 4096 := by omega
  have Hn := Lib.hid hn2
  clear ew ew2 hb1 hb2 hsz1 hsz2 hlz hfz hn h hn2
  go_enter Try.func24, Try.ntmps24
  go_upto_region 1 with (fail)
  rw [Hew.out, Hew2.out]
  go_wp2_with fail
  refine Hpl.out.mono ?_
  rintro e w3 ⟨rfl, hb3⟩
  have hl3 : w.heap.size + 1 < w3.heap.size := by have := hb3.size; have := Hsz.out; omega
  have hl0 : w.heap.size < w3.heap.size := by omega
  have HL3 := Lib.hid (Hlz.out.below hb3)
  have z0 := HL3.out.at 0 _ rfl
  have z1 := HL3.out.at 1 _ rfl
  have f0 := frozen_below hb3 (by have := Hsz.out; omega) (Hfz.out 0)
  have f1 := frozen_below hb3 (by have := Hsz.out; omega) (Hfz.out 1)
  have Hb3 := Lib.hid (bel2 Hb.out hb3)
  have hmk : ∀ W : World, (Instr.makeSlice 26 (.int .i64 (n : Int)) (.int .i64 (n : Int))).run Try.prog W = .ok (.slice (some ⟨W.heap.size, 0, none⟩) n n) (W.alloc (.cells (madeCells #[.int .i64 0] n) 3)) := fun W =>
    run_make_row' 26 3 (.int .i64 0) 8 Try.underlying26 info_int rfl .i64 .i64 n (by have := Hn.out; omega) (by have := Hn.out; omega) W
  generalize eg : w.heap.size = g at *
  have Heg := Lib.hid eg
  have Hb3' : Hid (Below g w w3) := Lib.hid Hb3.out
  clear hb3 c0 c1 c2 c3 c4 c5 eg
  go_wp2_with fail
  go_region
  · go_wp2_with fail
    have q := set2 HL3.out (.slice (some ⟨w3.heap.size, 0, none⟩) n n) (.slice (some ⟨w3.heap.size + 1, 0, none⟩) n n)
    have q0 := q.at 0 _ rfl
    have q1 := q.at 1 _ rfl
    refine bodyPost_ret (v := .agg #[.slice (some ⟨w3.heap.size, 0, none⟩) n n, .slice (some ⟨w3.heap.size + 1, 0, none⟩) n n]) (by simp [results, Try.results24, go_sem, q0, q1, hl3, hl0]) rfl ⟨_, _, rfl, ?_, ?_⟩
    · exact (zero_own (set2_size w3 (g + 1) _ _) n Hn.out).1.mono (by rw [Heg.out]; omega)
    · rw [Heg.out]; exact Below.drew (((Hb3'.out.trans (below2 w3 (g + 1) _ _ (by omega))).alloc (by rw [set2_size]; omega) _).alloc (by simp; omega) _)
  · go_wp2_with fail
    have q := set2 HL3.out (.slice (some ⟨w3.heap.size + 1, 0, none⟩) n n) (.slice (some ⟨w3.heap.size, 0, none⟩) n n)
    have q0 := q.at 0 _ rfl
    have q1 := q.at 1 _ rfl
    refine bodyPost_ret (v := .agg #[.slice (some ⟨w3.heap.size + 1, 0, none⟩) n n, .slice (some ⟨w3.heap.size, 0, none⟩) n n]) (by simp [results, Try.results24, go_sem, q0, q1, hl3, hl0]) rfl ⟨_, _, rfl, ?_, ?_⟩
    · exact (zero_own (set2_size w3 (g + 1) _ _) n Hn.out).2.mono (by rw [Heg.out]; omega)
    · rw [Heg.out]; exact Below.drew (((Hb3'.out.trans (below2 w3 (g + 1) _ _ (by omega))).alloc (by rw [set2_size]; omega) _).alloc (by simp; omega) _)
end Go.Proofs.Ythilfibgpobcjaa
