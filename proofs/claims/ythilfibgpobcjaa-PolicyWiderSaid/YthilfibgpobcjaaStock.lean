/-
  My own work: stock.day and its closure, stock.Nights, stock.Held: their contracts.
-/
import Derived.Test.YthilfibgpobcjaaBase
import Derived.RegionTactic
import Derived.Deep.QuietTactic
import Derived.BigQuiet
namespace Go.Proofs.Ythilfibgpobcjaa
open Go.RowKit
set_option linter.unusedVariables false

/-- The closure of stock.day stands at 'there' = x, over a customer's block gc with this Rate. -/
structure IsDay (w : World) (gt gc : Nat) (x rate : Int) : Prop where
  there : w.cell? ⟨gt, 0, none⟩ = some (.int .i64 x)
  free : w.frozen? ⟨gt, 0, none⟩ = false
  rate : w.cell? ⟨gc, 3, none⟩ = some (.int .i64 rate)
  ne : gt ≠ gc

theorem IsDay.lt {w : World} {gt gc : Nat} {x r : Int} (h : IsDay w gt gc x r) : gt < w.heap.size := World.block_lt_of_cell? w _ h.there
theorem IsDay.ltc {w : World} {gt gc : Nat} {x r : Int} (h : IsDay w gt gc x r) : gc < w.heap.size := World.block_lt_of_cell? w _ h.rate
theorem IsDay.kept {w w' : World} {gt gc : Nat} {x r : Int} {row : Option Nat} (h : IsDay w gt gc x r) (hg : w.grownBy w' row) (h1 : some gt ≠ row) (h2 : some gc ≠ row) : IsDay w' gt gc x r :=
  ⟨hg.cell h.there h1, (World.frozen?_of_block (a := ⟨gt, 0, none⟩) (hg.block gt h.lt h1)).trans h.free, hg.cell h.rate h2, h.ne⟩

theorem IsDay.step {w : World} {gt gc : Nat} {x r : Int} (h : IsDay w gt gc x r) (y : Int) (n : Nat) : IsDay ((w.setCell ⟨gt, 0, none⟩ (.int .i64 y)).drewN n) gt gc y r := by
  refine ⟨World.cell?_setCell_same _ _ _ h.there, (World.frozen?_setCell _ _ _ _).trans h.free, (World.cell?_setCell_other _ _ _ _ ?_).trans h.rate, h.ne⟩
  intro e
  have := congrArg Addr.block e
  exact h.ne this

theorem day_is (kd dm : Int) (pt : Value) (rt sz st ru hd : Int) (w : World) :
    Calls Try.prog 71 #[.agg #[.int .i64 kd, .int .i64 dm, pt, .int .i64 rt, .int .i64 sz, .int .i64 st, .int .i64 ru, .int .i64 hd]] w fun e w' =>
      ∃ gt gc, e = .returned (.func (.func 74) #[] #[.pointer (some ⟨gt, 0, none⟩), .pointer (some ⟨gc, 0, none⟩)]) ∧ w.heap.size ≤ gt ∧ w.heap.size ≤ gc ∧ IsDay w' gt gc st rt ∧ Below w.heap.size w w' := by
  go_enter Try.func71, Try.ntmps71
  go_wp2_with fail
  go_ret
  refine ⟨w.heap.size + 1, w.heap.size, rfl, by omega, by omega, ?_, ?_⟩
  · refine ⟨by simp [go_sem], by simp [go_sem], by simp [go_sem, World.cell?_alloc_past], by omega⟩
  · exact ((Below.refl _ _).alloc (Nat.le_refl _) _).alloc (by simp) _

theorem day1_is (q : Int) (gt gc : Nat) (x rt : Int) (w : World) (h : IsDay w gt gc x rt) :
    Calls Try.prog 74 #[.int .i64 q, .pointer (some ⟨gt, 0, none⟩), .pointer (some ⟨gc, 0, none⟩)] w fun e w' =>
      e = .returned (.tuple #[.int .i64 (wrap64 (x + q)), .int .i64 (wrap64 (wrap64 (x + q) - rt))]) ∧ IsDay w' gt gc (wrap64 (wrap64 (x + q) - rt)) rt ∧ w.grownBy w' (some gt) := by
  have h' := h
  obtain ⟨h1, h2, h3, h4⟩ := h
  go_enter Try.func74, Try.ntmps74
  go_wp2_with fail
  go_quiet (fail)
  go_wp2_with fail
  go_ret2
  exact ⟨rfl, h'.step _ nq, ⟨rfl, rfl, rfl, by simp [World.setCell], fun k _ hk => Below.heap_setCell _ _ _ _ (by simpa using hk)⟩⟩

/-! ### what stock.Nights computes, plainly -/
/-- A quantity that may be handed in. -/
def okQ (x : Int) : Bool := decide (0 ≤ x) && decide (x ≤ 2147483648)
/-- What is there in the morning of day k, before anything is brought. -/
def morn (st rt : Int) (q : List Int) (k : Nat) : Int := st + (q.take k).sum - rt * k
/-- What is there on day k behind the bringing. -/
def noon (st rt : Int) (q : List Int) (k : Nat) : Int := morn st rt q k + nth q k
def okDay (st rt sz : Int) (q : List Int) (k : Nat) : Bool := decide (noon st rt q k ≤ sz) && decide (rt ≤ noon st rt q k)
def nightL (st rt : Int) (q : List Int) (n : Nat) : List Int := (List.range n).map fun k => morn st rt q (k + 1)
/-- The error and the nights. -/
def nightsE (st rt sz : Int) (q : List Int) : Int × List Int :=
  if q.all okQ = true then (if (List.range q.length).all (okDay st rt sz q) = true then (0, nightL st rt q q.length) else (8, [])) else (1, [])

theorem sum_take_succ (q : List Int) (k : Nat) (h : k < q.length) : (q.take (k + 1)).sum = (q.take k).sum + nth q k := by
  rw [take_succ_nth q k h, List.sum_append]; simp
theorem morn_succ (st rt : Int) (q : List Int) (k : Nat) (h : k < q.length) : morn st rt q (k + 1) = noon st rt q k - rt := by
  unfold noon morn; rw [sum_take_succ q k h]; simp [Int.mul_add]; omega

/-- Numbers so small that nothing wraps. -/
structure Small (st rt sz : Int) (q : List Int) : Prop where
  st0 : 0 ≤ st
  st1 : st ≤ 4294967296
  rt0 : 0 ≤ rt
  rt1 : rt ≤ 4294967296
  len : q.length ≤ 1048576

theorem sum_bd (q : List Int) (h : q.all okQ = true) (k : Nat) : 0 ≤ (q.take k).sum ∧ (q.take k).sum ≤ 2147483648 * q.length := by
  induction q generalizing k with
  | nil => simp
  | cons x q ih =>
    simp only [List.all_cons, Bool.and_eq_true] at h
    have hx := h.1
    simp only [okQ, Bool.and_eq_true, decide_eq_true_eq] at hx
    cases k with
    | zero => simp; omega
    | succ k =>
      have := ih h.2 k
      simp only [List.take_succ_cons, List.sum_cons, List.length_cons]
      omega
theorem nth_okQ {q : List Int} (h : q.all okQ = true) {k : Nat} (hk : k < q.length) : 0 ≤ nth q k ∧ nth q k ≤ 2147483648 := by
  have := List.all_eq_true.1 h _ (nth_mem hk)
  simpa [okQ] using this
theorem mul_bd (rt : Int) (k : Nat) (h0 : 0 ≤ rt) (h1 : rt ≤ 4294967296) (hk : k ≤ 1048577) : 0 ≤ rt * k ∧ rt * k ≤ 4294967296 * 1048577 :=
  ⟨Int.mul_nonneg h0 (by omega), Int.mul_le_mul h1 (by omega) (by omega) (by omega)⟩
theorem morn_bd {st rt sz : Int} {q : List Int} (hs : Small st rt sz q) (h : q.all okQ = true) (k : Nat) (hk : k ≤ q.length) : -9007199254740992 ≤ morn st rt q k ∧ morn st rt q k ≤ 9007199254740992 := by
  have h1 := sum_bd q h k
  have h2 := mul_bd rt k hs.rt0 hs.rt1 (by have := hs.len; omega)
  have h3 := hs.len
  have h4 := hs.st0
  have h5 := hs.st1
  unfold morn
  omega
theorem noon_wrap {st rt sz : Int} {q : List Int} (hs : Small st rt sz q) (h : q.all okQ = true) (k : Nat) (hk : k < q.length) :
    wrap64 (morn st rt q k + nth q k) = noon st rt q k ∧ wrap64 (noon st rt q k - rt) = morn st rt q (k + 1) := by
  have h1 := morn_bd hs h k (by omega)
  have h2 := nth_okQ h hk
  have h4 := hs.rt0
  have h5 := hs.rt1
  rw [morn_succ _ _ _ _ hk]
  unfold wrap64 noon
  omega

theorem nightsE_bad {st rt sz : Int} {q : List Int} {k : Nat} (hk : k < q.length) (h : okQ (nth q k) = false) : nightsE st rt sz q = (1, []) := by
  unfold nightsE
  rw [if_neg]
  intro h'
  have := List.all_eq_true.1 h' _ (nth_mem hk)
  rw [h] at this; cases this
theorem nightsE_dry {st rt sz : Int} {q : List Int} {k : Nat} (hq : q.all okQ = true) (hk : k < q.length) (h : okDay st rt sz q k = false) : nightsE st rt sz q = (8, []) := by
  unfold nightsE
  rw [if_pos hq, if_neg]
  intro h'
  have := List.all_eq_true.1 h' k (by simpa using hk)
  rw [h] at this; cases this
theorem nightsE_ok {st rt sz : Int} {q : List Int} (hq : q.all okQ = true) (h : ∀ j, j < q.length → okDay st rt sz q j = true) : nightsE st rt sz q = (0, nightL st rt q q.length) := by
  unfold nightsE
  rw [if_pos hq, if_pos]
  rw [List.all_eq_true]
  intro j hj
  exact h j (by simpa using hj)
theorem all_okQ {q : List Int} (h : ∀ j, j < q.length → okQ (nth q j) = true) : q.all okQ = true := by
  rw [List.all_eq_true]
  intro x hx
  obtain ⟨j, hj, rfl⟩ := List.getElem_of_mem hx
  have := h j hj
  rwa [nth_lt hj] at this
theorem nightL_succ (st rt : Int) (q : List Int) (k : Nat) : nightL st rt q (k + 1) = nightL st rt q k ++ [morn st rt q (k + 1)] := by
  unfold nightL; rw [List.range_succ, List.map_append]; rfl
theorem nightL_len (st rt : Int) (q : List Int) (k : Nat) : (nightL st rt q k).length = k := by simp [nightL]

/-- A customer lies in block g. -/
structure IsCust (w : World) (g : Nat) (kd dm : Int) (pt : Value) (rt sz st ru hd : Int) : Prop where
  c0 : w.cell? ⟨g, 0, none⟩ = some (.int .i64 kd)
  c1 : w.cell? ⟨g, 1, none⟩ = some (.int .i64 dm)
  c2 : w.cell? ⟨g, 2, none⟩ = some pt
  c3 : w.cell? ⟨g, 3, none⟩ = some (.int .i64 rt)
  c4 : w.cell? ⟨g, 4, none⟩ = some (.int .i64 sz)
  c5 : w.cell? ⟨g, 5, none⟩ = some (.int .i64 st)
  c6 : w.cell? ⟨g, 6, none⟩ = some (.int .i64 ru)
  c7 : w.cell? ⟨g, 7, none⟩ = some (.int .i64 hd)

theorem IsCust.lt {w : World} {g : Nat} {kd dm : Int} {pt : Value} {rt sz st ru hd : Int} (h : IsCust w g kd dm pt rt sz st ru hd) : g < w.heap.size := World.block_lt_of_cell? w _ h.c0
theorem IsCust.kept {w w' : World} {g : Nat} {kd dm : Int} {pt : Value} {rt sz st ru hd : Int} {row : Option Nat} (h : IsCust w g kd dm pt rt sz st ru hd) (hg : w.grownBy w' row) (hne : some g ≠ row) : IsCust w' g kd dm pt rt sz st ru hd :=
  ⟨hg.cell h.c0 hne, hg.cell h.c1 hne, hg.cell h.c2 hne, hg.cell h.c3 hne, hg.cell h.c4 hne, hg.cell h.c5 hne, hg.cell h.c6 hne, hg.cell h.c7 hne⟩
theorem IsCust.below {w w' : World} {g : Nat} {kd dm : Int} {pt : Value} {rt sz st ru hd : Int} (h : IsCust w g kd dm pt rt sz st ru hd) (hb : Below w.heap.size w w') : IsCust w' g kd dm pt rt sz st ru hd :=
  h.kept (row := none) (grownBy_below hb) (by simp)

theorem box_cust (w : World) (kd dm : Int) (pt : Value) (rt sz st ru hd : Int) :
    ∃ w1, w.alloc (.cells #[.int .i64 kd, .int .i64 dm, pt, .int .i64 rt, .int .i64 sz, .int .i64 st, .int .i64 ru, .int .i64 hd] 60) = w1 ∧ Below w.heap.size w w1 ∧ w1.heap.size = w.heap.size + 1 ∧ IsCust w1 w.heap.size kd dm pt rt sz st ru hd :=
  ⟨_, rfl, (Below.refl _ _).alloc (Nat.le_refl _) _, by simp, ⟨by simp [go_sem], by simp [go_sem], by simp [go_sem], by simp [go_sem], by simp [go_sem], by simp [go_sem], by simp [go_sem], by simp [go_sem]⟩⟩

set_option maxHeartbeats 800000 in
theorem nights_is (kd dm : Int) (pt : Value) (rt sz st ru hd : Int) (qv : Value) (q : List Int) (w : World) (hq : Ints w qv q) (hs : Small st rt sz q) :
    Calls Try.prog 70 #[.agg #[.int .i64 kd, .int .i64 dm, pt, .int .i64 rt, .int .i64 sz, .int .i64 st, .int .i64 ru, .int .i64 hd], qv] w fun e w' =>
      ∃ v, e = .returned (.tuple #[v, .int .i64 (nightsE st rt sz q).1]) ∧ Own w' w.heap.size v (nightsE st rt sz q).2 ∧ Below w.heap.size w w' := by
  obtain ⟨w1, ew, hb1, hsz1, hcu⟩ := box_cust w kd dm pt rt sz st ru hd
  have hq1 := hq.below hb1
  obtain ⟨a, n, c, rfl, hn, hmax, hcell⟩ := hq1.open
  have Hn := Lib.hid hn
  have Hs := Lib.hid hs
  have Hew := Lib.hid ew
  have Hsz1 := Lib.hid hsz1
  have hlen : n ≤ 1048576 := by have := hs.len; omega
  have hcell1 : Hid (∀ k, k < n → ∃ b o, a = some ⟨b, o, none⟩ ∧ b < w1.heap.size ∧ w1.cell? ⟨b, o + k, none⟩ = some (.int .i64 (nth q k))) := fun k hk => by
    obtain ⟨b, o, h1, h2⟩ := hcell k hk
    exact ⟨b, o, h1, World.block_lt_of_cell? w1 _ h2, h2⟩
  clear hn hmax hq hq1 hs ew hsz1
  go_enter Try.func70, Try.ntmps70
  go_wp2_with fail
  rw [Hew.out]
  go_loop [16] (fun i => ∃ k : Nat, k ≤ n ∧ i = .int .i64 k ∧ ∀ j, j < k → okQ (nth q j) = true) (fun i => n - (intOf i).toNat)
  case atStart => exact ⟨0, Nat.zero_le _, rfl, fun j hj => by omega⟩
  case round =>
    obtain ⟨k, hk, rfl, hall⟩ := hrel
    have Hall := Lib.hid hall
    clear hall
    by_cases hlt : k < n
    · obtain ⟨b, o, rfl, hc⟩ := hcell k hlt
      have Hcell := Lib.hid hcell
      clear hcell
      by_cases h1 : nth q k < 0
      · have Hb : Hid (nightsE st rt sz q = (1, [])) := nightsE_bad (k := k) (by rw [Hn.out]; exact hlt) (by simp [okQ]; omega)
        go_wp2_with fail
        go_ret2
        rw [Hb.out]
        exact ⟨_, rfl, Own.nil _ _, hb1⟩
      by_cases h2 : 2147483648 < nth q k
      · have Hb : Hid (nightsE st rt sz q = (1, [])) := nightsE_bad (k := k) (by rw [Hn.out]; exact hlt) (by simp [okQ]; omega)
        go_wp2_with fail
        go_ret2
        rw [Hb.out]
        exact ⟨_, rfl, Own.nil _ _, hb1⟩
      · go_wp2_with fail
        go_round
        case rel => exact ⟨k + 1, by omega, by go_num, fun j hj => by rcases Nat.lt_succ_iff_lt_or_eq.1 hj with h | rfl; exact Hall.out j h; simp [okQ]; omega⟩
        case measure => simp [intOf]; omega
    · have hkn : k = n := by omega
      have hall : q.all okQ = true := all_okQ (by rw [Hn.out, ← hkn]; exact Hall.out)
      have Hall2 := Lib.hid hall
      clear hall hkn
      have hcu' := hcu
      have hl0 := hcu.lt
      obtain ⟨c0, c1, c2, c3, c4, c5, c6, c7⟩ := hcu'
      go_wp2_with fail
      refine (day_is kd dm pt rt sz st ru hd _).mono ?_
      rintro e w2 ⟨gt, gc, rfl, lgt, lgc, hday, hb2⟩
      have lt1 := hday.lt
      have lt2 := hday.ltc
      have hbn : 8 * n ≤ 281474976710656 := by omega
      obtain ⟨ii, hi, hz, hsi, hby⟩ := info_parts info_int
      go_wp2_with (at_make; refine wpList_make_own _ rfl _ _ 26 rfl w2.heap.size 3 ii (.int .i64 0) 1 Try.underlying26 hi hz hsi _ _ _ n rfl rfl rfl (by rw [hby]; omega) (by simp only [maxLen]; omega) (Nat.le_refl _) ?_)
      intro w3 hown0 hg3
      have hown : Own w3 w2.heap.size (.slice (some ⟨w2.heap.size, 0, none⟩) 0 n) (nightL st rt q 0) := hown0
      have hd3 := hday.kept hg3 (by simp) (by simp)
      have hb3 := hb2.grown hg3 hb2.size (by simp)
      have hs3 := hg3.size
      rw [show st = morn st rt q 0 by simp [morn]] at hd3
      clear hi hz hsi hby hday hg3 hown0 hbn hcell c0 c1 c2 c3 c4 c5 c6 c7
      generalize w2.heap.size = B at *
      go_wp2_with fail
      go_loopw [9, 34] (fun u i wr => ∃ (k : Nat) (v : Value), k ≤ n ∧ v = u ∧ i = .int .i64 k ∧ Own wr B v (nightL st rt q k) ∧ IsDay wr gt gc (morn st rt q k) rt ∧ Below w1.heap.size w1 wr ∧ B ≤ wr.heap.size ∧ ∀ j, j < k → okDay st rt sz q j = true) (fun _ i _ => n - (intOf i).toNat)
      case atStart => exact ⟨0, _, Nat.zero_le _, rfl, rfl, hown, hd3, hb3, hs3, fun j hj => by omega⟩
      case round =>
        clear hk hown hd3 hb3 hs3
        obtain ⟨k', v, hk, rfl, rfl, hown, hd, hb, hB, hall⟩ := hrel
        have Hall3 := Lib.hid hall
        clear hall
        by_cases hlt : k' < n
        · obtain ⟨b, o, rfl, hlb, hc1⟩ := hcell1.out k' hlt
          have hc := cell_lt hb hlb hc1
          have r3 := cell_lt hb hl0 hcu.c3
          have r4 := cell_lt hb hl0 hcu.c4
          have hcall := day1_is (nth q k') gt gc (morn st rt q k') rt wr hd
          obtain ⟨e1, e2⟩ := noon_wrap Hs.out Hall2.out k' (by rw [Hn.out]; exact hlt)
          rw [e1, e2] at hcall
          have Hcall := Lib.hid hcall
          have hltd := hd.lt
          clear hcall e1 e2 hc1 hd
          by_cases h3 : sz < noon st rt q k'
          · have Hb : Hid (nightsE st rt sz q = (8, [])) := nightsE_dry (k := k') Hall2.out (by rw [Hn.out]; exact hlt) (by simp [okDay]; omega)
            go_wp2_with fail
            refine Hcall.out.mono ?_
            rintro e w4 ⟨rfl, hd4, g4⟩
            have r3' := cell_grown g4 r3 (by show w.heap.size ≠ gt; omega)
            have r4' := cell_grown g4 r4 (by show w.heap.size ≠ gt; omega)
            have hb4 := hb.grown g4 (by omega) (fun k hk => by simp at hk; omega)
            clear r3 r4 hc g4
            go_wp2_with fail
            go_ret2
            rw [Hb.out]
            exact ⟨_, rfl, Own.nil _ _, hb1.trans (hb4.mono hb1.size)⟩
          by_cases h4 : noon st rt q k' < rt
          · have Hb : Hid (nightsE st rt sz q = (8, [])) := nightsE_dry (k := k') Hall2.out (by rw [Hn.out]; exact hlt) (by simp [okDay]; omega)
            go_wp2_with fail
            refine Hcall.out.mono ?_
            rintro e w4 ⟨rfl, hd4, g4⟩
            have r3' := cell_grown g4 r3 (by show w.heap.size ≠ gt; omega)
            have r4' := cell_grown g4 r4 (by show w.heap.size ≠ gt; omega)
            have hb4 := hb.grown g4 (by omega) (fun k hk => by simp at hk; omega)
            clear r3 r4 hc g4
            go_wp2_with fail
            go_ret2
            rw [Hb.out]
            exact ⟨_, rfl, Own.nil _ _, hb1.trans (hb4.mono hb1.size)⟩
          · go_wp2_with fail
            refine Hcall.out.mono ?_
            rintro e w4 ⟨rfl, hd4, g4⟩
            have r3' := cell_grown g4 r3 (by show w.heap.size ≠ gt; omega)
            have r4' := cell_grown g4 r4 (by show w.heap.size ≠ gt; omega)
            have hb4 := hb.grown g4 (by omega) (fun k hk => by simp at hk; omega)
            have hown4 := hown.kept g4 (hown.not (by omega))
            have hB4 := g4.size
            clear r3 r4 hc g4
            go_wp2_with (at_builtin; refine wpList_push rfl _ _ rfl w4 B v (nightL st rt q k') (morn st rt q (k' + 1)) rfl rfl hown4 (by rw [nightL_len]; omega) (by omega) ?_)
            intro v' w5 hown5 g5 hb5
            rw [← nightL_succ] at hown5
            have hd5 := hd4.kept g5 (hown4.not' (by omega)) (hown4.not' (by omega))
            have hb5' := hb4.trans (hb5.mono (by omega))
            have hB5 := hb5.size
            clear r3' r4' g5 hb5
            go_wp2_with fail
            go_roundw
            case rel => exact ⟨k' + 1, _, by omega, rfl, by go_num, hown5, hd5, hb5', by omega, fun j hj => by rcases Nat.lt_succ_iff_lt_or_eq.1 hj with h | rfl; exact Hall3.out j h; simp [okDay]; omega⟩
            case measure => simp [intOf]; omega
        · have hkn : k' = n := by omega
          have Hb : Hid (nightsE st rt sz q = (0, nightL st rt q k')) := by
            have := nightsE_ok (st := st) (rt := rt) (sz := sz) Hall2.out (fun j hj => Hall3.out j (by rw [hkn, ← Hn.out]; exact hj))
            rw [Hn.out, ← hkn] at this
            exact this
          clear hkn
          go_wp2_with fail
          go_ret2
          rw [Hb.out]
          exact ⟨_, rfl, hown.mono (by omega), hb1.trans (hb.mono hb1.size)⟩
end Go.Proofs.Ythilfibgpobcjaa
