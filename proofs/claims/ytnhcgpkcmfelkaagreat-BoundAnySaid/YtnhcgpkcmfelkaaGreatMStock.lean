/-
  My own work: stock.day and its closure, stock.Nights, stock.Held: their contracts.
  My own work: the references' Nights, Tank, round, few, Same; stock.Held: their contracts.
  My own work: stock.Held: its contract.
  My own work: plain facts on nightsE.
  My own work: tranterref09.Nights computes what stock.Nights does.
  My own work: stock.Holds, and the references' Holds and Held.
  My own work: tranterref09.Held: its contract.
  My own work: plain facts behind layer 10: what a visit may bring, the late way and the daily one.
  My own work: plain facts behind layer 10: a greater capacity.
  My own work: tranterref09.Tank.
-/
import Derived.Test.YtnhcgpkcmfelkaaGreatBase
import Derived.Test.YtnhcgpkcmfelkaaGreatMNum
import Derived.RegionTactic
import Derived.Deep.QuietTactic
import Derived.BigQuiet
import Derived.Deep.RegionHeld3
import Derived.Test.YtnhcgpkcmfelkaaGreatMDays
namespace Go.Proofs.YtnhcgpkcmfelkaaGreat
section
open Go.RowKit
set_option linter.unusedVariables false
set_option maxRecDepth 100000

/-- The closure of stock.day stands at 'there' = x, over a customer's block gc with this Rate. -/
structure IsDay (w : World) (gt gc : Nat) (x rate : Int) : Prop where
  there : w.cell? ⟨gt, 0, none⟩ = some (.int .i64 x)
  free : w.frozen? ⟨gt, 0, none⟩ = false
  rate : w.cell? ⟨gc, 3, none⟩ = some (.int .i64 rate)
  ne : gt ≠ gc

theorem IsDay.lt {w : World} {gt gc : Nat} {x r : Int} (h : IsDay w gt gc x r) : gt < w.heap.size := World.block_lt_of_cell? w _ h.there
theorem IsDay.ltc {w : World} {gt gc : Nat} {x r : Int} (h : IsDay w gt gc x r) : gc < w.heap.size := World.block_lt_of_cell? w _ h.rate
theorem IsDay.kept {w w' : World} {gt gc : Nat} {x r : Int} {row : Option Nat} (h : IsDay w gt gc x r) (hg : w.grownBy w' row) (h1 : some gt ≠ row) (h2 : some gc ≠ row) : IsDay w' gt gc x r :=
  ⟨hg.cell h.there h1, (World.frozen?_of_block (a := ⟨gt, 0, none⟩) (hg.block gt h.lt h1)).trans h.free, hg.cell h.rate h2, h.ne⟩

theorem IsDay.step {w : World} {gt gc : Nat} {x r : Int} (h : IsDay w gt gc x r) (y : Int) (n : Nat) : IsDay ((w.setCell ⟨gt, 0, none⟩ (.int .i64 y)).drewN n) gt gc y r := by
  refine ⟨World.cell?_setCell_same _ _ _ h.there, (World.frozen?_setCell _ _ _ _).trans h.free, (World.cell?_setCell_other _ _ _ _ ?_).trans h.rate, h.ne⟩
  intro e
  have := congrArg Addr.block e
  exact h.ne this

theorem day_is (kd dm : Int) (pt : Value) (rt sz st ru hd : Int) (w : World) :
    Calls Tryz.prog 123 #[.agg #[.int .i64 kd, .int .i64 dm, pt, .int .i64 rt, .int .i64 sz, .int .i64 st, .int .i64 ru, .int .i64 hd]] w fun e w' =>
      ∃ gt gc, e = .returned (.func (.func 133) #[] #[.pointer (some ⟨gt, 0, none⟩), .pointer (some ⟨gc, 0, none⟩)]) ∧ w.heap.size ≤ gt ∧ w.heap.size ≤ gc ∧ IsDay w' gt gc st rt ∧ Below w.heap.size w w' := by
  go_enter Tryz.func123, Tryz.ntmps123
  go_wp2_with fail
  go_ret
  refine ⟨w.heap.size + 1, w.heap.size, rfl, by omega, by omega, ?_, ?_⟩
  · refine ⟨by simp [go_sem], by simp [go_sem], by simp [go_sem, World.cell?_alloc_past], by omega⟩
  · exact ((Below.refl _ _).alloc (Nat.le_refl _) _).alloc (by simp) _

theorem day1_is (q : Int) (gt gc : Nat) (x rt : Int) (w : World) (h : IsDay w gt gc x rt) :
    Calls Tryz.prog 133 #[.int .i64 q, .pointer (some ⟨gt, 0, none⟩), .pointer (some ⟨gc, 0, none⟩)] w fun e w' =>
      e = .returned (.tuple #[.int .i64 (wrap64 (x + q)), .int .i64 (wrap64 (wrap64 (x + q) - rt))]) ∧ IsDay w' gt gc (wrap64 (wrap64 (x + q) - rt)) rt ∧ w.grownBy w' (some gt) := by
  have h' := h
  obtain ⟨h1, h2, h3, h4⟩ := h
  go_enter Tryz.func133, Tryz.ntmps133
  go_wp2_with fail
  go_quiet (fail)
  go_wp2_with fail
  go_ret2
  exact ⟨rfl, h'.step _ nq, ⟨rfl, rfl, rfl, by simp [World.setCell], fun k _ hk => Below.heap_setCell _ _ _ _ (by simpa using hk)⟩⟩

/-! ### what stock.Nights computes, plainly -/
/-- A quantity that may be handed in. -/
def okQ (x : Int) : Bool := decide (0 ≤ x) && decide (x ≤ 2147483648)
/-- What is there in the morning of day k, before anything is brought. -/
def morn (st rt : Int) (q : List Int) (k : Nat) : Int := st + (q.take k).sum - rt * k
/-- What is there on day k behind the bringing. -/
def noon (st rt : Int) (q : List Int) (k : Nat) : Int := morn st rt q k + nth q k
def okDay (st rt sz : Int) (q : List Int) (k : Nat) : Bool := decide (noon st rt q k ≤ sz) && decide (rt ≤ noon st rt q k)
def nightL (st rt : Int) (q : List Int) (n : Nat) : List Int := (List.range n).map fun k => morn st rt q (k + 1)
/-- The error and the nights. -/
def nightsE (st rt sz : Int) (q : List Int) : Int × List Int :=
  if q.all okQ = true then (if (List.range q.length).all (okDay st rt sz q) = true then (0, nightL st rt q q.length) else (8, [])) else (1, [])

theorem sum_take_succ (q : List Int) (k : Nat) (h : k < q.length) : (q.take (k + 1)).sum = (q.take k).sum + nth q k := by
  rw [take_succ_nth q k h, List.sum_append]; simp
theorem morn_succ (st rt : Int) (q : List Int) (k : Nat) (h : k < q.length) : morn st rt q (k + 1) = noon st rt q k - rt := by
  unfold noon morn; rw [sum_take_succ q k h]; simp [Int.mul_add]; omega

/-- Numbers so small that nothing wraps. -/
structure Small (st rt sz : Int) (q : List Int) : Prop where
  st0 : 0 ≤ st
  st1 : st ≤ 4294967296
  rt0 : 0 ≤ rt
  rt1 : rt ≤ 4294967296
  len : q.length ≤ 1048576

theorem sum_bd (q : List Int) (h : q.all okQ = true) (k : Nat) : 0 ≤ (q.take k).sum ∧ (q.take k).sum ≤ 2147483648 * q.length := by
  induction q generalizing k with
  | nil => simp
  | cons x q ih =>
    simp only [List.all_cons, Bool.and_eq_true] at h
    have hx := h.1
    simp only [okQ, Bool.and_eq_true, decide_eq_true_eq] at hx
    cases k with
    | zero => simp; omega
    | succ k =>
      have := ih h.2 k
      simp only [List.take_succ_cons, List.sum_cons, List.length_cons]
      omega
theorem nth_okQ {q : List Int} (h : q.all okQ = true) {k : Nat} (hk : k < q.length) : 0 ≤ nth q k ∧ nth q k ≤ 2147483648 := by
  have := List.all_eq_true.1 h _ (nth_mem hk)
  simpa [okQ] using this
theorem mul_bd (rt : Int) (k : Nat) (h0 : 0 ≤ rt) (h1 : rt ≤ 4294967296) (hk : k ≤ 1048577) : 0 ≤ rt * k ∧ rt * k ≤ 4294967296 * 1048577 :=
  ⟨Int.mul_nonneg h0 (by omega), Int.mul_le_mul h1 (by omega) (by omega) (by omega)⟩
theorem morn_bd {st rt sz : Int} {q : List Int} (hs : Small st rt sz q) (h : q.all okQ = true) (k : Nat) (hk : k ≤ q.length) : -9007199254740992 ≤ morn st rt q k ∧ morn st rt q k ≤ 9007199254740992 := by
  have h1 := sum_bd q h k
  have h2 := mul_bd rt k hs.rt0 hs.rt1 (by have := hs.len; omega)
  have h3 := hs.len
  have h4 := hs.st0
  have h5 := hs.st1
  unfold morn
  omega
theorem noon_wrap {st rt sz : Int} {q : List Int} (hs : Small st rt sz q) (h : q.all okQ = true) (k : Nat) (hk : k < q.length) :
    wrap64 (morn st rt q k + nth q k) = noon st rt q k ∧ wrap64 (noon st rt q k - rt) = morn st rt q (k + 1) := by
  have h1 := morn_bd hs h k (by omega)
  have h2 := nth_okQ h hk
  have h4 := hs.rt0
  have h5 := hs.rt1
  rw [morn_succ _ _ _ _ hk]
  unfold wrap64 noon
  omega

theorem nightsE_bad {st rt sz : Int} {q : List Int} {k : Nat} (hk : k < q.length) (h : okQ (nth q k) = false) : nightsE st rt sz q = (1, []) := by
  unfold nightsE
  rw [if_neg]
  intro h'
  have := List.all_eq_true.1 h' _ (nth_mem hk)
  rw [h] at this; cases this
theorem nightsE_dry {st rt sz : Int} {q : List Int} {k : Nat} (hq : q.all okQ = true) (hk : k < q.length) (h : okDay st rt sz q k = false) : nightsE st rt sz q = (8, []) := by
  unfold nightsE
  rw [if_pos hq, if_neg]
  intro h'
  have := List.all_eq_true.1 h' k (by simpa using hk)
  rw [h] at this; cases this
theorem nightsE_ok {st rt sz : Int} {q : List Int} (hq : q.all okQ = true) (h : ∀ j, j < q.length → okDay st rt sz q j = true) : nightsE st rt sz q = (0, nightL st rt q q.length) := by
  unfold nightsE
  rw [if_pos hq, if_pos]
  rw [List.all_eq_true]
  intro j hj
  exact h j (by simpa using hj)
theorem all_okQ {q : List Int} (h : ∀ j, j < q.length → okQ (nth q j) = true) : q.all okQ = true := by
  rw [List.all_eq_true]
  intro x hx
  obtain ⟨j, hj, rfl⟩ := List.getElem_of_mem hx
  have := h j hj
  rwa [nth_lt hj] at this
theorem nightL_succ (st rt : Int) (q : List Int) (k : Nat) : nightL st rt q (k + 1) = nightL st rt q k ++ [morn st rt q (k + 1)] := by
  unfold nightL; rw [List.range_succ, List.map_append]; rfl
theorem nightL_len (st rt : Int) (q : List Int) (k : Nat) : (nightL st rt q k).length = k := by simp [nightL]

set_option maxHeartbeats 800000 in
theorem nights_is (kd dm : Int) (pt : Value) (rt sz st ru hd : Int) (qv : Value) (q : List Int) (w : World) (hq : Ints w qv q) (hs : Small st rt sz q) :
    Calls Tryz.prog 105 #[.agg #[.int .i64 kd, .int .i64 dm, pt, .int .i64 rt, .int .i64 sz, .int .i64 st, .int .i64 ru, .int .i64 hd], qv] w fun e w' =>
      ∃ v, e = .returned (.tuple #[v, .int .i64 (nightsE st rt sz q).1]) ∧ Own w' w.heap.size v (nightsE st rt sz q).2 ∧ Below w.heap.size w w' := by
  obtain ⟨w1, ew, hb1, hsz1, hcu⟩ := box_cust w kd dm pt rt sz st ru hd
  have hq1 := hq.below hb1
  obtain ⟨a, n, c, rfl, hn, hmax, hcell⟩ := hq1.open
  have Hn := Lib.hid hn
  have Hs := Lib.hid hs
  have Hew := Lib.hid ew
  have Hsz1 := Lib.hid hsz1
  have hlen : n ≤ 1048576 := by have := hs.len; omega
  have hcell1 : Hid (∀ k, k < n → ∃ b o, a = some ⟨b, o, none⟩ ∧ b < w1.heap.size ∧ w1.cell? ⟨b, o + k, none⟩ = some (.int .i64 (nth q k))) := fun k hk => by
    obtain ⟨b, o, h1, h2⟩ := hcell k hk
    exact ⟨b, o, h1, World.block_lt_of_cell? w1 _ h2, h2⟩
  clear hn hmax hq hq1 hs ew hsz1
  go_enter Tryz.func105, Tryz.ntmps105
  go_wp2_with fail
  rw [Hew.out]
  go_loop [16] (fun i => ∃ k : Nat, k ≤ n ∧ i = .int .i64 k ∧ ∀ j, j < k → okQ (nth q j) = true) (fun i => n - (intOf i).toNat)
  case atStart => exact ⟨0, Nat.zero_le _, rfl, fun j hj => by omega⟩
  case round =>
    obtain ⟨k, hk, rfl, hall⟩ := hrel
    have Hall := Lib.hid hall
    clear hall
    by_cases hlt : k < n
    · obtain ⟨b, o, rfl, hc⟩ := hcell k hlt
      have Hcell := Lib.hid hcell
      clear hcell
      by_cases h1 : nth q k < 0
      · have Hb : Hid (nightsE st rt sz q = (1, [])) := nightsE_bad (k := k) (by rw [Hn.out]; exact hlt) (by simp [okQ]; omega)
        go_wp2_with fail
        go_ret2
        rw [Hb.out]
        exact ⟨_, rfl, Own.nil _ _, hb1⟩
      by_cases h2 : 2147483648 < nth q k
      · have Hb : Hid (nightsE st rt sz q = (1, [])) := nightsE_bad (k := k) (by rw [Hn.out]; exact hlt) (by simp [okQ]; omega)
        go_wp2_with fail
        go_ret2
        rw [Hb.out]
        exact ⟨_, rfl, Own.nil _ _, hb1⟩
      · go_wp2_with fail
        go_round
        case rel => exact ⟨k + 1, by omega, by go_num, fun j hj => by rcases Nat.lt_succ_iff_lt_or_eq.1 hj with h | rfl; exact Hall.out j h; simp [okQ]; omega⟩
        case measure => simp [intOf]; omega
    · have hkn : k = n := by omega
      have hall : q.all okQ = true := all_okQ (by rw [Hn.out, ← hkn]; exact Hall.out)
      have Hall2 := Lib.hid hall
      clear hall hkn
      have hcu' := hcu
      have hl0 := hcu.lt
      obtain ⟨c0, c1, c2, c3, c4, c5, c6, c7⟩ := hcu'
      go_wp2_with fail
      refine (day_is kd dm pt rt sz st ru hd _).mono ?_
      rintro e w2 ⟨gt, gc, rfl, lgt, lgc, hday, hb2⟩
      have lt1 := hday.lt
      have lt2 := hday.ltc
      have hbn : 8 * n ≤ 281474976710656 := by omega
      obtain ⟨ii, hi, hz, hsi, hby⟩ := info_parts info_int
      go_wp2_with (at_make; refine wpList_make_own _ rfl _ _ 26 rfl w2.heap.size 3 ii (.int .i64 0) 1 Tryz.underlying26 hi hz hsi _ _ _ n rfl rfl rfl (by rw [hby]; omega) (by simp only [maxLen]; omega) (Nat.le_refl _) ?_)
      intro w3 hown0 hg3
      have hown : Own w3 w2.heap.size (.slice (some ⟨w2.heap.size, 0, none⟩) 0 n) (nightL st rt q 0) := hown0
      have hd3 := hday.kept hg3 (by simp) (by simp)
      have hb3 := hb2.grown hg3 hb2.size (by simp)
      have hs3 := hg3.size
      rw [show st = morn st rt q 0 by simp [morn]] at hd3
      clear hi hz hsi hby hday hg3 hown0 hbn hcell c0 c1 c2 c3 c4 c5 c6 c7
      generalize w2.heap.size = B at *
      go_wp2_with fail
      go_loopw [9, 34] (fun u i wr => ∃ (k : Nat) (v : Value), k ≤ n ∧ v = u ∧ i = .int .i64 k ∧ Own wr B v (nightL st rt q k) ∧ IsDay wr gt gc (morn st rt q k) rt ∧ Below w1.heap.size w1 wr ∧ B ≤ wr.heap.size ∧ ∀ j, j < k → okDay st rt sz q j = true) (fun _ i _ => n - (intOf i).toNat)
      case atStart => exact ⟨0, _, Nat.zero_le _, rfl, rfl, hown, hd3, hb3, hs3, fun j hj => by omega⟩
      case round =>
        clear hk hown hd3 hb3 hs3
        obtain ⟨k', v, hk, rfl, rfl, hown, hd, hb, hB, hall⟩ := hrel
        have Hall3 := Lib.hid hall
        clear hall
        by_cases hlt : k' < n
        · obtain ⟨b, o, rfl, hlb, hc1⟩ := hcell1.out k' hlt
          have hc := cell_lt hb hlb hc1
          have r3 := cell_lt hb hl0 hcu.c3
          have r4 := cell_lt hb hl0 hcu.c4
          have hcall := day1_is (nth q k') gt gc (morn st rt q k') rt wr hd
          obtain ⟨e1, e2⟩ := noon_wrap Hs.out Hall2.out k' (by rw [Hn.out]; exact hlt)
          rw [e1, e2] at hcall
          have Hcall := Lib.hid hcall
          have hltd := hd.lt
          clear hcall e1 e2 hc1 hd
          by_cases h3 : sz < noon st rt q k'
          · have Hb : Hid (nightsE st rt sz q = (8, [])) := nightsE_dry (k := k') Hall2.out (by rw [Hn.out]; exact hlt) (by simp [okDay]; omega)
            go_wp2_with fail
            refine Hcall.out.mono ?_
            rintro e w4 ⟨rfl, hd4, g4⟩
            have r3' := cell_grown g4 r3 (by show w.heap.size ≠ gt; omega)
            have r4' := cell_grown g4 r4 (by show w.heap.size ≠ gt; omega)
            have hb4 := hb.grown g4 (by omega) (fun k hk => by simp at hk; omega)
            clear r3 r4 hc g4
            go_wp2_with fail
            go_ret2
            rw [Hb.out]
            exact ⟨_, rfl, Own.nil _ _, hb1.trans (hb4.mono hb1.size)⟩
          by_cases h4 : noon st rt q k' < rt
          · have Hb : Hid (nightsE st rt sz q = (8, [])) := nightsE_dry (k := k') Hall2.out (by rw [Hn.out]; exact hlt) (by simp [okDay]; omega)
            go_wp2_with fail
            refine Hcall.out.mono ?_
            rintro e w4 ⟨rfl, hd4, g4⟩
            have r3' := cell_grown g4 r3 (by show w.heap.size ≠ gt; omega)
            have r4' := cell_grown g4 r4 (by show w.heap.size ≠ gt; omega)
            have hb4 := hb.grown g4 (by omega) (fun k hk => by simp at hk; omega)
            clear r3 r4 hc g4
            go_wp2_with fail
            go_ret2
            rw [Hb.out]
            exact ⟨_, rfl, Own.nil _ _, hb1.trans (hb4.mono hb1.size)⟩
          · go_wp2_with fail
            refine Hcall.out.mono ?_
            rintro e w4 ⟨rfl, hd4, g4⟩
            have r3' := cell_grown g4 r3 (by show w.heap.size ≠ gt; omega)
            have r4' := cell_grown g4 r4 (by show w.heap.size ≠ gt; omega)
            have hb4 := hb.grown g4 (by omega) (fun k hk => by simp at hk; omega)
            have hown4 := hown.kept g4 (hown.not (by omega))
            have hB4 := g4.size
            clear r3 r4 hc g4
            go_wp2_with (at_builtin; refine wpList_push rfl _ _ rfl w4 B v (nightL st rt q k') (morn st rt q (k' + 1)) rfl rfl hown4 (by rw [nightL_len]; omega) (by omega) ?_)
            intro v' w5 hown5 g5 hb5
            rw [← nightL_succ] at hown5
            have hd5 := hd4.kept g5 (hown4.not' (by omega)) (hown4.not' (by omega))
            have hb5' := hb4.trans (hb5.mono (by omega))
            have hB5 := hb5.size
            clear r3' r4' g5 hb5
            go_wp2_with fail
            go_roundw
            case rel => exact ⟨k' + 1, _, by omega, rfl, by go_num, hown5, hd5, hb5', by omega, fun j hj => by rcases Nat.lt_succ_iff_lt_or_eq.1 hj with h | rfl; exact Hall3.out j h; simp [okDay]; omega⟩
            case measure => simp [intOf]; omega
        · have hkn : k' = n := by omega
          have Hb : Hid (nightsE st rt sz q = (0, nightL st rt q k')) := by
            have := nightsE_ok (st := st) (rt := rt) (sz := sz) Hall2.out (fun j hj => Hall3.out j (by rw [hkn, ← Hn.out]; exact hj))
            rw [Hn.out, ← hkn] at this
            exact this
          clear hkn
          go_wp2_with fail
          go_ret2
          rw [Hb.out]
          exact ⟨_, rfl, hown.mono (by omega), hb1.trans (hb.mono hb1.size)⟩
end

section
open Go.RowKit
set_option linter.unusedVariables false
set_option maxRecDepth 100000
end

section
open Go.RowKit
set_option linter.unusedVariables false
set_option maxRecDepth 100000

def sumW (xs : List Int) : Int := xs.foldl (fun a x => wrap64 (a + x)) 0
theorem sumW_from (l : List Int) (b : Int) (h : ∀ x ∈ l, -b ≤ x ∧ x ≤ b) (a : Int) (c : Nat) (ha : -(b * c) ≤ a ∧ a ≤ b * c) (hc : b * (c + l.length : Nat) ≤ 9223372036854775807) (hb : 0 ≤ b) :
    l.foldl (fun a x => wrap64 (a + x)) a = a + l.sum := by
  induction l generalizing a c with
  | nil => simp
  | cons x l ih =>
    have hx := h x (List.mem_cons_self ..)
    have e : b * ((c + 1 + l.length : Nat) : Int) = b * ((c + (x :: l).length : Nat) : Int) := by
      congr 2; simp; omega
    have e2 : b * ((c + 1 : Nat) : Int) = b * c + b := by rw [Int.natCast_succ, Int.mul_add, Int.mul_one]
    have e3 : b * ((c + 1 : Nat) : Int) ≤ b * ((c + 1 + l.length : Nat) : Int) := Int.mul_le_mul_of_nonneg_left (by omega) hb
    rw [e] at e3
    simp only [List.foldl_cons, List.sum_cons]
    rw [wrap_id (by omega) (by omega), ih (fun y hy => h y (List.mem_cons_of_mem _ hy)) (a + x) (c + 1) (by rw [e2]; omega) (by rw [e]; exact hc)]
    omega
theorem sumW_eq (l : List Int) (b : Int) (h : ∀ x ∈ l, -b ≤ x ∧ x ≤ b) (hc : b * (l.length : Nat) ≤ 9223372036854775807) (hb : 0 ≤ b) : sumW l = l.sum := by
  unfold sumW
  rw [sumW_from l b h 0 0 (by simp) (by simpa using hc) hb]
  omega

theorem held_is (kd dm : Int) (pt : Value) (rt sz st ru hd : Int) (v : Value) (xs : List Int) (w : World) (h : Ints w v xs) :
    Calls Tryz.prog 107 #[.agg #[.int .i64 kd, .int .i64 dm, pt, .int .i64 rt, .int .i64 sz, .int .i64 st, .int .i64 ru, .int .i64 hd], v] w fun e w' =>
      e = .returned (.int .i64 (wrap64 (hd * sumW xs))) ∧ Below w.heap.size w w' := by
  obtain ⟨w1, ew, hb1, hsz1, hcu⟩ := box_cust w kd dm pt rt sz st ru hd
  have hq1 := h.below hb1
  obtain ⟨a, n, c, rfl, hn, hmax, hcell⟩ := hq1.open
  have Hn := Lib.hid hn
  have Hew := Lib.hid ew
  have Hcell := Lib.hid hcell
  have r7 := hcu.c7
  clear hn h hcell hq1 ew hsz1
  go_enter Tryz.func107, Tryz.ntmps107
  go_wp2_with fail
  rw [Hew.out]
  go_loop [5, 10] (fun s i => ∃ k : Nat, k ≤ n ∧ i = .int .i64 k ∧ s = .int .i64 (sumW (xs.take k))) (fun _ i => n - (intOf i).toNat)
  case atStart => exact ⟨0, Nat.zero_le _, rfl, rfl⟩
  case round =>
    obtain ⟨k, hk, rfl, rfl⟩ := hrel
    by_cases hlt : k < n
    · obtain ⟨b, o, rfl, hc⟩ := Hcell.out k hlt
      have Hs : Hid (sumW (xs.take (k + 1)) = wrap64 (sumW (xs.take k) + nth xs k)) := by
        show _ = _
        rw [take_succ_nth xs k (by rw [Hn.out]; exact hlt)]; simp [sumW]
      go_wp2_with fail
      go_round
      case rel => exact ⟨k + 1, by omega, by go_num, by rw [Hs.out]⟩
      case measure => simp [intOf]; omega
    · have Hs : Hid (xs.take k = xs) := by
        show _ = _
        rw [List.take_of_length_le]; rw [Hn.out]; omega
      go_wp2_with fail
      go_ret
      rw [Hs.out]
      exact ⟨rfl, hb1⟩
end

section
open Go.RowKit
set_option linter.unusedVariables false
set_option maxRecDepth 100000

theorem nightsE_cases (st rt sz : Int) (q : List Int) : nightsE st rt sz q = (1, []) ∧ q.all okQ = false ∨ nightsE st rt sz q = (8, []) ∧ q.all okQ = true ∨
    (nightsE st rt sz q = (0, nightL st rt q q.length) ∧ q.all okQ = true ∧ ∀ k, k < q.length → okDay st rt sz q k = true) := by
  unfold nightsE
  by_cases h1 : q.all okQ = true
  · rw [if_pos h1]
    by_cases h2 : (List.range q.length).all (okDay st rt sz q) = true
    · rw [if_pos h2]
      exact .inr (.inr ⟨rfl, h1, fun k hk => List.all_eq_true.1 h2 k (by simpa using hk)⟩)
    · rw [if_neg h2]
      exact .inr (.inl ⟨rfl, h1⟩)
  · rw [if_neg h1]
    exact .inl ⟨rfl, by simpa using h1⟩
theorem nth_nightL (st rt : Int) (q : List Int) (n k : Nat) (h : k < n) : nth (nightL st rt q n) k = morn st rt q (k + 1) := by
  unfold nightL; rw [nth_map_range _ _ _ h]
theorem nightL_take (st rt : Int) (q : List Int) (n m k : Nat) (h : k ≤ m) (hm : m ≤ n) : nightL st rt (q.take m) k = (nightL st rt q n).take k := by
  apply ext_nth
  · rw [nightL_len, List.length_take, nightL_len]; omega
  · intro j hj
    rw [nightL_len] at hj
    rw [nth_nightL _ _ _ _ _ hj, nth_take hj, nth_nightL _ _ _ _ _ (by omega)]
    unfold morn
    rw [List.take_take, Nat.min_eq_left (by omega)]
theorem okDay_bd {st rt sz : Int} {q : List Int} {k : Nat} (h : okDay st rt sz q k = true) : noon st rt q k ≤ sz ∧ rt ≤ noon st rt q k := by
  simpa [okDay] using h
/-- Where all days are well the mornings are not below 0. -/
theorem morn_nonneg {st rt sz : Int} {q : List Int} (h0 : 0 ≤ st) (h : ∀ k, k < q.length → okDay st rt sz q k = true) (k : Nat) (hk : k ≤ q.length) : 0 ≤ morn st rt q k := by
  cases k with
  | zero => simp [morn]; exact h0
  | succ k =>
    rw [morn_succ _ _ _ _ (by omega)]
    have := okDay_bd (h k (by omega))
    omega
theorem take_sum_set (q : List Int) (d : Nat) (y : Int) (hd : d < q.length) (k : Nat) : ((q.set d y).take k).sum = (q.take k).sum + (if d < k then y - nth q d else 0) := by
  induction q generalizing d k with
  | nil => simp at hd
  | cons x q ih =>
    cases k with
    | zero => simp
    | succ k =>
      cases d with
      | zero => simp [nth]; omega
      | succ d =>
        simp only [List.set_cons_succ, List.take_succ_cons, List.sum_cons]
        rw [ih d (by simpa using hd) k]
        have : nth (x :: q) (d + 1) = nth q d := rfl
        rw [this]
        by_cases h : d < k
        · rw [if_pos h, if_pos (by omega)]; omega
        · rw [if_neg h, if_neg (by omega)]; omega
theorem morn_set (st rt : Int) (q : List Int) (d : Nat) (y : Int) (hd : d < q.length) (k : Nat) : morn st rt (q.set d y) k = morn st rt q k + (if d < k then y - nth q d else 0) := by
  unfold morn; rw [take_sum_set q d y hd k]; omega
theorem okQ_set {q : List Int} {d : Nat} {y : Int} (h : q.all okQ = true) (hy : okQ y = true) : (q.set d y).all okQ = true := by
  rw [List.all_eq_true] at h ⊢
  intro x hx
  rcases List.mem_or_eq_of_mem_set hx with h' | rfl
  · exact h x h'
  · exact hy
theorem morn_take (st rt : Int) (q : List Int) (n k : Nat) (h : k ≤ n) : morn st rt (q.take n) k = morn st rt q k := by
  unfold morn; rw [List.take_take, Nat.min_eq_left h]
theorem nightsE_take {st rt sz : Int} {q : List Int} (hok : q.all okQ = true) (hd : ∀ k, k < q.length → okDay st rt sz q k = true) (m : Nat) (hm : m ≤ q.length) :
    nightsE st rt sz (q.take m) = (0, (nightL st rt q q.length).take m) := by
  have hl : (q.take m).length = m := by rw [List.length_take]; omega
  have h1 : (q.take m).all okQ = true := by
    rw [List.all_eq_true] at hok ⊢
    intro x hx
    exact hok x (List.mem_of_mem_take hx)
  rw [nightsE_ok h1, hl, nightL_take st rt q q.length m m (Nat.le_refl _) hm]
  intro j hj
  rw [hl] at hj
  have := hd j (by omega)
  unfold okDay noon at this ⊢
  rw [morn_take _ _ _ _ _ (by omega), nth_take hj]
  exact this
theorem sum_take_le {l : List Int} (h : ∀ x ∈ l, 0 ≤ x) (k : Nat) : 0 ≤ (l.take k).sum ∧ (l.take k).sum ≤ l.sum := by
  induction l generalizing k with
  | nil => simp
  | cons x l ih =>
    have hx := h x (List.mem_cons_self ..)
    cases k with
    | zero =>
      have := ih (fun y hy => h y (List.mem_cons_of_mem _ hy)) l.length
      rw [List.take_length] at this
      simp; omega
    | succ k =>
      have := ih (fun y hy => h y (List.mem_cons_of_mem _ hy)) k
      simp only [List.take_succ_cons, List.sum_cons]; omega
end

section
open Go.RowKit
set_option linter.unusedVariables false
set_option maxRecDepth 100000

/-- What came up to day d (exclusive k). -/
def came (st : Int) (q : List Int) (k : Nat) : Int := st + (q.take k).sum
theorem came_succ (st : Int) (q : List Int) (k : Nat) (h : k < q.length) : came st q (k + 1) = came st q k + nth q k := by
  unfold came; rw [sum_take_succ q k h]; omega
theorem came_noon (st rt : Int) (q : List Int) (k : Nat) (h : k < q.length) : came st q (k + 1) - rt * k = noon st rt q k := by
  unfold came noon morn; rw [sum_take_succ q k h]; omega
theorem came_bd {st rt sz : Int} {q : List Int} (hs : Small st rt sz q) (h : q.all okQ = true) (k : Nat) : 0 ≤ came st q k ∧ came st q k ≤ 9007199254740992 := by
  have h1 := sum_bd q h k
  have h3 := hs.len
  have h4 := hs.st0
  have h5 := hs.st1
  unfold came
  omega

set_option maxHeartbeats 1600000 in
theorem refNights_is (kd dm : Int) (pt : Value) (rt sz st ru hd : Int) (qv : Value) (q : List Int) (w : World) (hq : Ints w qv q) (hs : Small st rt sz q) :
    Calls Tryz.prog 73 #[.agg #[.int .i64 kd, .int .i64 dm, pt, .int .i64 rt, .int .i64 sz, .int .i64 st, .int .i64 ru, .int .i64 hd], qv] w fun e w' =>
      ∃ v, e = .returned (.tuple #[v, .int .i64 (nightsE st rt sz q).1]) ∧ Own w' w.heap.size v (nightsE st rt sz q).2 ∧ Below w.heap.size w w' := by
  obtain ⟨w1, ew, hb1, hsz1, hcu⟩ := box_cust w kd dm pt rt sz st ru hd
  have hq1 := hq.below hb1
  obtain ⟨a, n, c, rfl, hn, hmax, hcell⟩ := hq1.open
  have Hn := Lib.hid hn
  have Hs := Lib.hid hs
  have Hew := Lib.hid ew
  have hlen : n ≤ 1048576 := by have := hs.len; omega
  have Hcell := Lib.hid hcell
  have hl0 := hcu.lt
  clear hn hmax hq hq1 hs ew hsz1 hcell
  go_enter Tryz.func73, Tryz.ntmps73
  go_wp2_with fail
  rw [Hew.out]
  go_loop [6] (fun i => ∃ k : Nat, k ≤ n ∧ i = .int .i64 k ∧ ∀ j, j < k → okQ (nth q j) = true) (fun i => n - (intOf i).toNat)
  case atStart => exact ⟨0, Nat.zero_le _, rfl, fun j hj => by omega⟩
  case round =>
    obtain ⟨k, hk, rfl, hall⟩ := hrel
    have Hall := Lib.hid hall
    clear hall
    by_cases hlt : k < n
    · obtain ⟨b, o, rfl, hc⟩ := Hcell.out k hlt
      by_cases h1 : nth q k < 0
      · have Hb : Hid (nightsE st rt sz q = (1, [])) := nightsE_bad (k := k) (by rw [Hn.out]; exact hlt) (by simp [okQ]; omega)
        go_wp2_with fail
        go_ret2
        rw [Hb.out]
        exact ⟨_, rfl, Own.nil _ _, hb1⟩
      by_cases h2 : 2147483648 < nth q k
      · have Hb : Hid (nightsE st rt sz q = (1, [])) := nightsE_bad (k := k) (by rw [Hn.out]; exact hlt) (by simp [okQ]; omega)
        go_wp2_with fail
        go_ret2
        rw [Hb.out]
        exact ⟨_, rfl, Own.nil _ _, hb1⟩
      · go_wp2_with fail
        go_round
        case rel => exact ⟨k + 1, by omega, by go_num, fun j hj => by rcases Nat.lt_succ_iff_lt_or_eq.1 hj with h | rfl; exact Hall.out j h; simp [okQ]; omega⟩
        case measure => simp [intOf]; omega
    · have hkn : k = n := by omega
      have hall : q.all okQ = true := all_okQ (by rw [Hn.out, ← hkn]; exact Hall.out)
      have Hall2 := Lib.hid hall
      clear hall hkn
      go_wp2_with fail
      go_loopw [7, 8] (fun u i wr => ∃ (k : Nat) (v : Value), k ≤ n ∧ v = u ∧ i = .int .i64 k ∧ Own wr w1.heap.size v (nightL st rt q k) ∧ Below w1.heap.size w1 wr ∧ ∀ j, j < k → okDay st rt sz q j = true) (fun _ i _ => n - (intOf i).toNat)
      case atStart => exact ⟨0, _, Nat.zero_le _, rfl, rfl, Own.nil _ _, Below.refl _ _, fun j hj => by omega⟩
      case round =>
        obtain ⟨d, v, hd, rfl, rfl, hown, hb, hall⟩ := hrel
        have Hall3 := Lib.hid hall
        clear hall
        by_cases hlt : d < n
        · have r3 := cell_lt hb hl0 hcu.c3
          have r4 := cell_lt hb hl0 hcu.c4
          have r5 := cell_lt hb hl0 hcu.c5
          obtain ⟨wo, ewo⟩ : ∃ wo : World, wo = wr := ⟨_, rfl⟩
          subst ewo
          go_wp2_with fail
          go_loop [9, 10] (fun s i => ∃ j : Nat, j ≤ d + 1 ∧ i = .int .i64 j ∧ s = .int .i64 (came st q j)) (fun _ i => d + 1 - (intOf i).toNat)
          case atStart => exact ⟨0, by omega, rfl, by simp [came]⟩
          case round =>
            obtain ⟨j, hj, rfl, rfl⟩ := hrel
            by_cases hjd : j ≤ d
            · obtain ⟨b, o, rfl, hc0⟩ := Hcell.out j (by omega)
              have hc := cell_below hb hc0
              have hcs : wrap64 (came st q j + nth q j) = came st q (j + 1) := by
                rw [came_succ st q j (by rw [Hn.out]; omega)]
                have := came_bd Hs.out Hall2.out (j + 1)
                rw [came_succ st q j (by rw [Hn.out]; omega)] at this
                exact wrap_id (by omega) (by omega)
              clear hc0
              go_wp2_with fail
              go_round
              case rel => exact ⟨j + 1, by omega, by go_num, by rw [hcs]⟩
              case measure => simp [intOf]; omega
            · have hj' : j = d + 1 := by omega
              subst hj'
              clear hjd hj
              have hm : wrap64 (rt * (d : Int)) = rt * d := by
                have := mul_bd rt d Hs.out.rt0 Hs.out.rt1 (by omega)
                exact wrap_id (by omega) (by omega)
              have hno : wrap64 (came st q (d + 1) - rt * d) = noon st rt q d := by
                rw [came_noon st rt q d (by rw [Hn.out]; omega)]
                have := morn_bd Hs.out Hall2.out (d + 1) (by rw [Hn.out]; omega)
                rw [morn_succ _ _ _ _ (by rw [Hn.out]; omega)] at this
                have h3 := Hs.out.rt0
                have h4 := Hs.out.rt1
                exact wrap_id (by omega) (by omega)
              obtain ⟨_, e2⟩ := noon_wrap Hs.out Hall2.out d (by rw [Hn.out]; exact hlt)
              by_cases h3 : sz < noon st rt q d
              · have Hb : Hid (nightsE st rt sz q = (8, [])) := nightsE_dry (k := d) Hall2.out (by rw [Hn.out]; exact hlt) (by simp [okDay]; omega)
                go_wp2_with fail
                go_ret2
                rw [Hb.out]
                exact ⟨_, rfl, Own.nil _ _, hb1.trans (hb.mono hb1.size)⟩
              have hms : morn st rt q (d + 1) = noon st rt q d - rt := morn_succ _ _ _ _ (by rw [Hn.out]; omega)
              by_cases h4 : morn st rt q (d + 1) < 0
              · have Hb : Hid (nightsE st rt sz q = (8, [])) := nightsE_dry (k := d) Hall2.out (by rw [Hn.out]; exact hlt) (by simp [okDay]; omega)
                clear hms
                go_wp2_with fail
                go_ret2
                rw [Hb.out]
                exact ⟨_, rfl, Own.nil _ _, hb1.trans (hb.mono hb1.size)⟩
              · have Hok : Hid (okDay st rt sz q d = true) := by show _ = _; simp [okDay]; omega
                clear hms
                go_wp2_with (at_builtin; refine wpList_push rfl _ _ rfl wo w1.heap.size v (nightL st rt q d) (morn st rt q (d + 1)) rfl rfl hown (by rw [nightL_len]; omega) hb.size ?_)
                intro v' w5 hown5 g5 hb5
                rw [← nightL_succ] at hown5
                have hb5' := hb.trans hb5
                clear r3 r4 r5 g5 hb5
                go_wp2_with fail
                go_roundw
                case rel => exact ⟨d + 1, _, by omega, rfl, by go_num, hown5, hb5', fun j hj => by rcases Nat.lt_succ_iff_lt_or_eq.1 hj with h | rfl; exact Hall3.out j h; exact Hok.out⟩
                case measure => simp [intOf]; omega
        · have hkn : d = n := by omega
          have Hb : Hid (nightsE st rt sz q = (0, nightL st rt q d)) := by
            have := nightsE_ok (st := st) (rt := rt) (sz := sz) Hall2.out (fun j hj => Hall3.out j (by rw [hkn, ← Hn.out]; exact hj))
            rw [Hn.out, ← hkn] at this
            exact this
          clear hkn
          go_wp2_with fail
          go_ret2
          rw [Hb.out]
          exact ⟨_, rfl, hown.mono (by omega), hb1.trans (hb.mono hb1.size)⟩
end

section
open Go.RowKit
set_option linter.unusedVariables false
set_option maxRecDepth 100000

/-- By FillUp: a bringing on this day fills the tank. -/
def fillsUp (st rt sz : Int) (q : List Int) (k : Nat) : Bool := decide (nth q k ≤ 0) || decide (noon st rt q k = sz)
def holdsE (st rt sz ru : Int) (q : List Int) : Int :=
  if (nightsE st rt sz q).1 = 0 then (if ru = 1 then (if (List.range q.length).all (fillsUp st rt sz q) = true then 0 else 9) else 0) else (nightsE st rt sz q).1

theorem holdsE_err {st rt sz ru : Int} {q : List Int} (h : (nightsE st rt sz q).1 ≠ 0) : holdsE st rt sz ru q = (nightsE st rt sz q).1 := by unfold holdsE; rw [if_neg h]
theorem holdsE_any {st rt sz ru : Int} {q : List Int} (h : (nightsE st rt sz q).1 = 0) (hr : ru ≠ 1) : holdsE st rt sz ru q = 0 := by unfold holdsE; rw [if_pos h, if_neg hr]
theorem holdsE_bad {st rt sz ru : Int} {q : List Int} {k : Nat} (h : (nightsE st rt sz q).1 = 0) (hr : ru = 1) (hk : k < q.length) (hb : fillsUp st rt sz q k = false) : holdsE st rt sz ru q = 9 := by
  unfold holdsE; rw [if_pos h, if_pos hr, if_neg]
  intro h'
  have := List.all_eq_true.1 h' k (by simpa using hk)
  rw [hb] at this; cases this
theorem holdsE_ok {st rt sz ru : Int} {q : List Int} (h : (nightsE st rt sz q).1 = 0) (hr : ru = 1) (hb : ∀ k, k < q.length → fillsUp st rt sz q k = true) : holdsE st rt sz ru q = 0 := by
  unfold holdsE; rw [if_pos h, if_pos hr, if_pos]
  rw [List.all_eq_true]
  intro j hj
  exact hb j (by simpa using hj)

set_option maxHeartbeats 1600000 in
theorem holds_is (kd dm : Int) (pt : Value) (rt sz st ru hd : Int) (qv : Value) (q : List Int) (w : World) (hq : Ints w qv q) (hs : Small st rt sz q) :
    Calls Tryz.prog 136 #[.agg #[.int .i64 kd, .int .i64 dm, pt, .int .i64 rt, .int .i64 sz, .int .i64 st, .int .i64 ru, .int .i64 hd], qv] w fun e w' =>
      e = .returned (.int .i64 (holdsE st rt sz ru q)) ∧ Below w.heap.size w w' := by
  obtain ⟨w1, ew, hb1, hsz1, hcu⟩ := box_cust w kd dm pt rt sz st ru hd
  have hq1 := hq.below hb1
  obtain ⟨a, n, c, rfl, hn, hmax, hcell⟩ := hq1.open
  have Hn := Lib.hid hn
  have Hs := Lib.hid hs
  have Hew := Lib.hid ew
  have hlen : n ≤ 1048576 := by have := hs.len; omega
  have hl0 := hcu.lt
  clear hn hmax hq hs ew hsz1 hcell
  obtain ⟨c0, c1, c2, c3, c4, c5, c6, c7⟩ := hcu
  go_enter Tryz.func136, Tryz.ntmps136
  go_wp2_with fail
  rw [Hew.out]
  refine (nights_is kd dm pt rt sz st ru hd _ q w1 hq1 Hs.out).mono ?_
  rintro e w2 ⟨v, rfl, _, hb2⟩
  have hq2 := hq1.below hb2
  have hcu2 : IsCust w2 w.heap.size kd dm pt rt sz st ru hd := IsCust.below ⟨c0, c1, c2, c3, c4, c5, c6, c7⟩ hb2
  have hbw2 := hb1.trans (hb2.mono hb1.size)
  have hl2 := hcu2.lt
  clear c0 c1 c2 c3 c4 c5 c6 c7 hb2 hb1 hq1
  obtain ⟨c0, c1, c2, c3, c4, c5, c6, c7⟩ := hcu2
  have hcell : Hid (∀ k, k < n → ∃ b o, a = some ⟨b, o, none⟩ ∧ b < w2.heap.size ∧ w2.cell? ⟨b, o + k, none⟩ = some (.int .i64 (nth q k))) := by
    obtain ⟨a', n', c', he, hn', _, hc⟩ := hq2.open
    simp only [Value.slice.injEq] at he
    obtain ⟨rfl, rfl, rfl⟩ := he
    intro k hk
    obtain ⟨b, o, h1, h2⟩ := hc k hk
    exact ⟨b, o, h1, World.block_lt_of_cell? w2 _ h2, h2⟩
  clear hq2
  by_cases hE : (nightsE st rt sz q).1 = 0
  rotate_left
  · have Hh : Hid (holdsE st rt sz ru q = (nightsE st rt sz q).1) := holdsE_err hE
    generalize (nightsE st rt sz q).1 = r at *
    have hr : (r != 0) = true := by simpa using hE
    go_wp2_with fail
    go_ret
    rw [Hh.out]
    exact ⟨rfl, hbw2⟩
  have HE := Lib.hid hE
  rw [hE]
  clear hE
  by_cases hr : ru = 1
  rotate_left
  · have Hh : Hid (holdsE st rt sz ru q = 0) := holdsE_any HE.out hr
    have hr' : (ru != 1) = true := by simpa using hr
    go_wp2_with fail
    go_ret
    rw [Hh.out]
    exact ⟨rfl, hbw2⟩
  have hr' : (ru != 1) = false := by simpa using hr
  have Hr := Lib.hid hr
  clear hr
  obtain ⟨hok, hdays⟩ : q.all okQ = true ∧ ∀ k, k < q.length → okDay st rt sz q k = true := by
    rcases nightsE_cases st rt sz q with ⟨h, _⟩ | ⟨h, _⟩ | ⟨_, h1, h2⟩
    · have := HE.out; rw [h] at this; cases this
    · have := HE.out; rw [h] at this; cases this
    · exact ⟨h1, h2⟩
  have Hok := Lib.hid hok
  have Hdays := Lib.hid hdays
  clear hok hdays
  go_wp2_with fail
  refine (day_is kd dm pt rt sz st ru hd _).mono ?_
  rintro e w3 ⟨gt, gc, rfl, lgt, lgc, hday, hb3⟩
  rw [show st = morn st rt q 0 by simp [morn]] at hday
  have d4 := cell_below hb3 c4
  clear c0 c1 c2 c3 c4 c5 c6 c7
  go_wp2_with fail
  go_loopw [28] (fun i wr => ∃ k : Nat, k ≤ n ∧ i = .int .i64 k ∧ IsDay wr gt gc (morn st rt q k) rt ∧ Below w2.heap.size w2 wr ∧ wr.cell? ⟨w.heap.size, 4, none⟩ = some (.int .i64 sz) ∧ ∀ j, j < k → fillsUp st rt sz q j = true) (fun i _ => n - (intOf i).toNat)
  case atStart => exact ⟨0, Nat.zero_le _, rfl, hday, hb3, d4, fun j hj => by omega⟩
  case round =>
    clear d4 hday hb3
    obtain ⟨k, hk, rfl, hd, hb, d4, hall⟩ := hrel
    have Hall := Lib.hid hall
    clear hall
    by_cases hlt : k < n
    · obtain ⟨b, o, rfl, hlb, hc1⟩ := hcell.out k hlt
      have hc := cell_lt hb hlb hc1
      have hcall := day1_is (nth q k) gt gc (morn st rt q k) rt wr hd
      obtain ⟨e1, e2⟩ := noon_wrap Hs.out Hok.out k (by rw [Hn.out]; exact hlt)
      rw [e1, e2] at hcall
      have Hcall := Lib.hid hcall
      have hltd := hd.lt
      clear hcall e1 e2 hc1 hd
      by_cases h0 : 0 < nth q k
      · by_cases h1 : noon st rt q k = sz
        · have Hf : Hid (fillsUp st rt sz q k = true) := by show _ = _; simp [fillsUp, h1]
          have h2 : (noon st rt q k != sz) = false := by simpa using h1
          clear h1
          go_wp2_with fail
          refine Hcall.out.mono ?_
          rintro e w4 ⟨rfl, hd4, g4⟩
          have d4' := cell_grown g4 d4 (by show w.heap.size ≠ gt; omega)
          have hb4 := hb.grown g4 hb.size (fun k hk => by simp at hk; omega)
          clear d4 hc g4
          go_wp2_with fail
          go_roundw
          case rel => exact ⟨k + 1, by omega, by go_num, hd4, hb4, d4', fun j hj => by rcases Nat.lt_succ_iff_lt_or_eq.1 hj with h | rfl; exact Hall.out j h; exact Hf.out⟩
          case measure => simp [intOf]; omega
        · have Hf : Hid (holdsE st rt sz ru q = 9) := holdsE_bad HE.out Hr.out (k := k) (by rw [Hn.out]; exact hlt) (by simp [fillsUp, h1]; omega)
          have h2 : (noon st rt q k != sz) = true := by simpa using h1
          clear h1
          go_wp2_with fail
          refine Hcall.out.mono ?_
          rintro e w4 ⟨rfl, hd4, g4⟩
          have d4' := cell_grown g4 d4 (by show w.heap.size ≠ gt; omega)
          have hb4 := hb.grown g4 hb.size (fun k hk => by simp at hk; omega)
          clear d4 hc g4
          go_wp2_with fail
          go_ret
          rw [Hf.out]
          exact ⟨rfl, hbw2.trans (hb4.mono hbw2.size)⟩
      · have Hf : Hid (fillsUp st rt sz q k = true) := by show _ = _; simp [fillsUp]; omega
        go_wp2_with fail
        refine Hcall.out.mono ?_
        rintro e w4 ⟨rfl, hd4, g4⟩
        have d4' := cell_grown g4 d4 (by show w.heap.size ≠ gt; omega)
        have hb4 := hb.grown g4 hb.size (fun k hk => by simp at hk; omega)
        clear d4 hc g4
        go_wp2_with fail
        go_roundw
        case rel => exact ⟨k + 1, by omega, by go_num, hd4, hb4, d4', fun j hj => by rcases Nat.lt_succ_iff_lt_or_eq.1 hj with h | rfl; exact Hall.out j h; exact Hf.out⟩
        case measure => simp [intOf]; omega
    · have Hf : Hid (holdsE st rt sz ru q = 0) := holdsE_ok HE.out Hr.out (fun j hj => Hall.out j (by rw [Hn.out] at hj; omega))
      go_wp2_with fail
      go_ret
      rw [Hf.out]
      exact ⟨rfl, hbw2.trans (hb.mono hbw2.size)⟩

set_option maxHeartbeats 1600000 in
theorem refHolds_is (kd dm : Int) (pt : Value) (rt sz st ru hd : Int) (qv : Value) (q : List Int) (w : World) (hq : Ints w qv q) (hs : Small st rt sz q) :
    Calls Tryz.prog 71 #[.agg #[.int .i64 kd, .int .i64 dm, pt, .int .i64 rt, .int .i64 sz, .int .i64 st, .int .i64 ru, .int .i64 hd], qv] w fun e w' =>
      e = .returned (.int .i64 (holdsE st rt sz ru q)) ∧ Below w.heap.size w w' := by
  obtain ⟨w1, ew, hb1, hsz1, hcu⟩ := box_cust w kd dm pt rt sz st ru hd
  have hq1 := hq.below hb1
  obtain ⟨a, n, c, rfl, hn, hmax, hcell⟩ := hq1.open
  have Hn := Lib.hid hn
  have Hs := Lib.hid hs
  have Hew := Lib.hid ew
  have hlen : n ≤ 1048576 := by have := hs.len; omega
  have hl0 := hcu.lt
  clear hn hmax hq hs ew hsz1 hcell
  obtain ⟨c0, c1, c2, c3, c4, c5, c6, c7⟩ := hcu
  go_enter Tryz.func71, Tryz.ntmps71
  go_wp2_with fail
  rw [Hew.out]
  refine (refNights_is kd dm pt rt sz st ru hd _ q w1 hq1 Hs.out).mono ?_
  rintro e w2 ⟨v, rfl, hv, hb2⟩
  have hq2 := hq1.below hb2
  have hcu2 : IsCust w2 w.heap.size kd dm pt rt sz st ru hd := IsCust.below ⟨c0, c1, c2, c3, c4, c5, c6, c7⟩ hb2
  have hbw2 := hb1.trans (hb2.mono hb1.size)
  have hl2 := hcu2.lt
  clear c0 c1 c2 c3 c4 c5 c6 c7 hb2 hb1 hq1
  obtain ⟨c0, c1, c2, c3, c4, c5, c6, c7⟩ := hcu2
  have hcell : Hid (∀ k, k < n → ∃ b o, a = some ⟨b, o, none⟩ ∧ w2.cell? ⟨b, o + k, none⟩ = some (.int .i64 (nth q k))) := by
    obtain ⟨a', n', c', he, hn', _, hc⟩ := hq2.open
    simp only [Value.slice.injEq] at he
    obtain ⟨rfl, rfl, rfl⟩ := he
    exact hc
  clear hq2
  by_cases hE : (nightsE st rt sz q).1 = 0
  rotate_left
  · have Hh : Hid (holdsE st rt sz ru q = (nightsE st rt sz q).1) := holdsE_err hE
    generalize (nightsE st rt sz q).1 = r at *
    have hr : (r != 0) = true := by simpa using hE
    clear hv
    go_wp2_with fail
    go_ret
    rw [Hh.out]
    exact ⟨rfl, hbw2⟩
  have HE := Lib.hid hE
  rw [hE]
  clear hE
  obtain ⟨hE2, hok, hdays⟩ : nightsE st rt sz q = (0, nightL st rt q n) ∧ q.all okQ = true ∧ ∀ k, k < q.length → okDay st rt sz q k = true := by
    rcases nightsE_cases st rt sz q with ⟨h, _⟩ | ⟨h, _⟩ | ⟨h, h1, h2⟩
    · have := HE.out; rw [h] at this; cases this
    · have := HE.out; rw [h] at this; cases this
    · rw [Hn.out] at h
      exact ⟨h, h1, h2⟩
  rw [hE2] at hv
  obtain ⟨av, nv, cv, rfl, hnv, _, hcv⟩ := hv.ints.open
  rw [nightL_len] at hnv
  subst hnv
  have Hcv := Lib.hid hcv
  have Hok := Lib.hid hok
  have Hdays := Lib.hid hdays
  clear hok hdays hcv hv hE2
  go_wp2_with fail
  go_loopw [7] (fun i wr => ∃ k : Nat, k ≤ n ∧ i = .int .i64 k ∧ Below w2.heap.size w2 wr ∧ (ru = 1 → ∀ j, j < k → fillsUp st rt sz q j = true)) (fun i _ => n - (intOf i).toNat)
  case atStart => exact ⟨0, Nat.zero_le _, rfl, Below.refl _ _, fun _ j hj => by omega⟩
  case round =>
    obtain ⟨k, hk, rfl, hb, hall⟩ := hrel
    have Hall := Lib.hid hall
    have d3 := cell_below hb c3
    have d4 := cell_below hb c4
    have d6 := cell_below hb c6
    clear hall
    by_cases hlt : k < n
    · obtain ⟨b, o, rfl, hc1⟩ := hcell.out k hlt
      obtain ⟨b2, o2, rfl, hc2⟩ := Hcv.out k hlt
      rw [nth_nightL _ _ _ _ _ hlt] at hc2
      have e1 := cell_below hb hc1
      have e2 := cell_below hb hc2
      clear hc1 hc2
      have hi0 : (0 : Int) ≤ (k : Int) := by omega
      have hi1 : (k : Int) < (n : Int) := by omega
      by_cases hr : ru = 1
      · have hr' : (ru == 1) = true := by simpa using hr
        have Hr := Lib.hid hr
        clear hr
        by_cases h0 : 0 < nth q k
        · have h0' : decide (0 < nth q k) = true := by simpa using h0
          have hw : wrap64 (morn st rt q (k + 1) + rt) = noon st rt q k := by
            obtain ⟨e1, e2⟩ := noon_wrap Hs.out Hok.out k (by rw [Hn.out]; exact hlt)
            rw [morn_succ _ _ _ _ (by rw [Hn.out]; exact hlt)]
            have h1 := morn_bd Hs.out Hok.out k (by rw [Hn.out]; omega)
            have h2 := nth_okQ Hok.out (k := k) (by rw [Hn.out]; exact hlt)
            rw [show noon st rt q k - rt + rt = noon st rt q k by omega]
            unfold noon
            exact wrap_id (by omega) (by omega)
          by_cases h1 : noon st rt q k = sz
          · have Hf : Hid (fillsUp st rt sz q k = true) := by show _ = _; simp [fillsUp, h1]
            have h2 : (noon st rt q k != sz) = false := by simpa using h1
            clear h1
            go_wp2_with fail
            go_quiet (fail)
            go_wp2_with fail
            go_roundw
            case rel => exact ⟨k + 1, by omega, by go_num, below_drewN hb nq, fun _ j hj => by rcases Nat.lt_succ_iff_lt_or_eq.1 hj with h | rfl; exact Hall.out Hr.out j h; exact Hf.out⟩
            case measure => simp [intOf]; omega
          · have Hf : Hid (holdsE st rt sz ru q = 9) := holdsE_bad HE.out Hr.out (k := k) (by rw [Hn.out]; exact hlt) (by simp [fillsUp, h1]; omega)
            have h2 : (noon st rt q k != sz) = true := by simpa using h1
            clear h1
            go_wp2_with fail
            go_quiet (fail)
            go_wp2_with fail
            go_ret
            rw [Hf.out]
            exact ⟨rfl, hbw2.trans (below_drewN (hb.mono hbw2.size) nq)⟩
        · have Hf : Hid (fillsUp st rt sz q k = true) := by show _ = _; simp [fillsUp]; omega
          have h0' : decide (0 < nth q k) = false := by simpa using h0
          clear h0
          go_wp2_with fail
          go_quiet (fail)
          go_wp2_with fail
          go_roundw
          case rel => exact ⟨k + 1, by omega, by go_num, below_drewN hb nq, fun _ j hj => by rcases Nat.lt_succ_iff_lt_or_eq.1 hj with h | rfl; exact Hall.out Hr.out j h; exact Hf.out⟩
          case measure => simp [intOf]; omega
      · have hr' : (ru == 1) = false := by simpa using hr
        have Hr := Lib.hid hr
        clear hr
        go_wp2_with fail
        go_quiet (fail)
        go_wp2_with fail
        go_roundw
        case rel => exact ⟨k + 1, by omega, by go_num, below_drewN hb nq, fun h => absurd h Hr.out⟩
        case measure => simp [intOf]; omega
    · have Hf : Hid (holdsE st rt sz ru q = 0) := by
        by_cases hr : ru = 1
        · exact holdsE_ok HE.out hr (fun j hj => Hall.out hr j (by rw [Hn.out] at hj; omega))
        · exact holdsE_any HE.out hr
      go_wp2_with fail
      go_ret
      rw [Hf.out]
      exact ⟨rfl, hbw2.trans (hb.mono hbw2.size)⟩
end

section
open Go.RowKit
set_option linter.unusedVariables false
set_option maxRecDepth 100000

theorem refHeld_is (kd dm : Int) (pt : Value) (rt sz st ru hd : Int) (v : Value) (xs : List Int) (w : World) (h : Ints w v xs) :
    Calls Tryz.prog 74 #[.agg #[.int .i64 kd, .int .i64 dm, pt, .int .i64 rt, .int .i64 sz, .int .i64 st, .int .i64 ru, .int .i64 hd], v] w fun e w' =>
      e = .returned (.int .i64 (wrap64 (hd * sumW xs))) ∧ Below w.heap.size w w' := by
  obtain ⟨w1, ew, hb1, hsz1, hcu⟩ := box_cust w kd dm pt rt sz st ru hd
  have hq1 := h.below hb1
  obtain ⟨a, n, c, rfl, hn, hmax, hcell⟩ := hq1.open
  have Hn := Lib.hid hn
  have Hew := Lib.hid ew
  have Hcell := Lib.hid hcell
  have r7 := hcu.c7
  clear hn h hcell hq1 ew hsz1
  go_enter Tryz.func74, Tryz.ntmps74
  go_wp2_with fail
  rw [Hew.out]
  go_loop [5, 6] (fun s i => ∃ k : Nat, k ≤ n ∧ i = .int .i64 k ∧ s = .int .i64 (sumW (xs.take k))) (fun _ i => n - (intOf i).toNat)
  case atStart => exact ⟨0, Nat.zero_le _, rfl, rfl⟩
  case round =>
    obtain ⟨k, hk, rfl, rfl⟩ := hrel
    by_cases hlt : k < n
    · obtain ⟨b, o, rfl, hc⟩ := Hcell.out k hlt
      have Hs : Hid (sumW (xs.take (k + 1)) = wrap64 (sumW (xs.take k) + nth xs k)) := by
        show _ = _
        rw [take_succ_nth xs k (by rw [Hn.out]; exact hlt)]; simp [sumW]
      go_wp2_with fail
      go_round
      case rel => exact ⟨k + 1, by omega, by go_num, by rw [Hs.out]⟩
      case measure => simp [intOf]; omega
    · have Hs : Hid (xs.take k = xs) := by
        show _ = _
        rw [List.take_of_length_le]; rw [Hn.out]; omega
      go_wp2_with fail
      go_ret
      rw [Hs.out]
      exact ⟨rfl, hb1⟩
end

section
open Go.RowKit
set_option linter.unusedVariables false
set_option maxRecDepth 100000

/-- The most that a visit brings. -/
def mostI (sz ru there cap : Int) : Int := if sz - there < 1 ∨ cap < 0 then 0 else if sz - there ≤ cap then sz - there else if ru = 1 then 0 else cap
theorem most_bd (sz ru there cap : Int) (h : there ≤ sz) : 0 ≤ mostI sz ru there cap ∧ mostI sz ru there cap ≤ sz - there := by
  unfold mostI
  split
  · omega
  · split
    · omega
    · split <;> omega
/-- What is brought on a day, by what is there. -/
def bringI (late : Bool) (sz ru rt cap there : Int) : Int := if late = true ∧ rt ≤ there then 0 else mostI sz ru (max there 0) cap
/-- A way's bringings of k days, and what is there then. -/
def wayS (late : Bool) (sz ru rt cap st : Int) : Nat → List Int × Int
  | 0 => ([], st)
  | k + 1 => ((wayS late sz ru rt cap st k).1 ++ [bringI late sz ru rt cap (wayS late sz ru rt cap st k).2], (wayS late sz ru rt cap st k).2 + bringI late sz ru rt cap (wayS late sz ru rt cap st k).2 - rt)
def wayQ (late : Bool) (sz ru rt cap st : Int) (n : Nat) : List Int := (wayS late sz ru rt cap st n).1
def wayT (late : Bool) (sz ru rt cap st : Int) (n : Nat) : Int := (wayS late sz ru rt cap st n).2

section
variable {late : Bool} {sz ru rt cap st : Int}
theorem wayQ_succ (k : Nat) : wayQ late sz ru rt cap st (k + 1) = wayQ late sz ru rt cap st k ++ [bringI late sz ru rt cap (wayT late sz ru rt cap st k)] := rfl
theorem wayT_succ (k : Nat) : wayT late sz ru rt cap st (k + 1) = wayT late sz ru rt cap st k + bringI late sz ru rt cap (wayT late sz ru rt cap st k) - rt := rfl
theorem wayQ_len (k : Nat) : (wayQ late sz ru rt cap st k).length = k := by
  induction k with
  | zero => rfl
  | succ k ih => rw [wayQ_succ, List.length_append, ih]; rfl
theorem wayQ_take (k n : Nat) (h : k ≤ n) : (wayQ late sz ru rt cap st n).take k = wayQ late sz ru rt cap st k := by
  induction n with
  | zero => rw [show k = 0 by omega]; rfl
  | succ n ih =>
    by_cases e : k = n + 1
    · subst e
      rw [List.take_of_length_le (by rw [wayQ_len]; exact Nat.le_refl _)]
    · rw [wayQ_succ, List.take_append_of_le_length (by rw [wayQ_len]; omega)]
      exact ih (by omega)
theorem nth_wayQ (k n : Nat) (h : k < n) : nth (wayQ late sz ru rt cap st n) k = bringI late sz ru rt cap (wayT late sz ru rt cap st k) := by
  rw [← nth_take (n := k + 1) (by omega), wayQ_take (k + 1) n (by omega), wayQ_succ]
  have := nth_append_here (xs := wayQ late sz ru rt cap st k) (y := bringI late sz ru rt cap (wayT late sz ru rt cap st k))
  rwa [wayQ_len] at this
theorem wayT_morn (k n : Nat) (h : k ≤ n) : wayT late sz ru rt cap st k = morn st rt (wayQ late sz ru rt cap st n) k := by
  induction k with
  | zero => simp [wayT, wayS, morn]
  | succ k ih =>
    rw [wayT_succ, morn_succ _ _ _ _ (by rw [wayQ_len]; omega)]
    unfold noon
    rw [nth_wayQ k n (by omega), ← ih (by omega)]
theorem bring_bd (there : Int) (h : 0 ≤ sz) : 0 ≤ bringI late sz ru rt cap there ∧ bringI late sz ru rt cap there ≤ sz := by
  unfold bringI
  split
  · omega
  · by_cases hs : max there 0 ≤ sz
    · have := most_bd sz ru (max there 0) cap hs
      omega
    · unfold mostI
      rw [if_pos (by omega)]
      omega
theorem wayT_bd (h : 0 ≤ sz) (hr : 0 ≤ rt) (k : Nat) : st - rt * k ≤ wayT late sz ru rt cap st k ∧ wayT late sz ru rt cap st k ≤ st + sz * k := by
  induction k with
  | zero => simp [wayT, wayS]
  | succ k ih =>
    have := bring_bd (late := late) (ru := ru) (rt := rt) (cap := cap) (wayT late sz ru rt cap st k) h
    rw [wayT_succ]
    rw [show ((k + 1 : Nat) : Int) = (k : Int) + 1 by omega, Int.mul_add, Int.mul_add]
    omega
theorem way_okQ (h : 0 ≤ sz) (h2 : sz ≤ 2147483648) (n : Nat) : (wayQ late sz ru rt cap st n).all okQ = true := by
  apply all_okQ
  intro j hj
  rw [wayQ_len] at hj
  rw [nth_wayQ j n hj]
  have := bring_bd (late := late) (ru := ru) (rt := rt) (cap := cap) (wayT late sz ru rt cap st j) h
  simp [okQ]
  omega
end

theorem holdsE_zero {st rt sz : Int} {q : List Int} : holdsE st rt sz 2 q = 0 ↔ (nightsE st rt sz q).1 = 0 := by
  unfold holdsE
  constructor
  · intro h
    by_cases h0 : (nightsE st rt sz q).1 = 0
    · exact h0
    · rw [if_neg h0] at h; exact h
  · intro h
    rw [if_pos h, if_neg (by decide)]
theorem nightsE_zero {st rt sz : Int} {q : List Int} (h : (nightsE st rt sz q).1 = 0) : ∀ k, k < q.length → okDay st rt sz q k = true := by
  unfold nightsE at h
  split at h
  · split at h
    · rename_i h2
      intro k hk
      exact List.all_eq_true.1 h2 k (by simpa using hk)
    · simp at h
  · simp at h

/-- Where the late way may be by AnyUp, the daily one has no less there, and may be. -/
theorem late_daily (sz rt cap st : Int) (n : Nat) (h0 : 0 ≤ st) (h1 : st ≤ sz) (hr : 0 ≤ rt) (hok : ∀ k, k < n → okDay st rt sz (wayQ true sz 2 rt cap st n) k = true) :
    ∀ k, k ≤ n → 0 ≤ wayT true sz 2 rt cap st k ∧ wayT true sz 2 rt cap st k ≤ wayT false sz 2 rt cap st k ∧ wayT false sz 2 rt cap st k ≤ sz ∧
      (k < n → okDay st rt sz (wayQ false sz 2 rt cap st n) k = true) := by
  have hday : ∀ k, k < n → wayT true sz 2 rt cap st k + bringI true sz 2 rt cap (wayT true sz 2 rt cap st k) ≤ sz ∧ rt ≤ wayT true sz 2 rt cap st k + bringI true sz 2 rt cap (wayT true sz 2 rt cap st k) := by
    intro k hk
    have := okDay_bd (hok k hk)
    unfold noon at this
    rw [nth_wayQ k n hk, ← wayT_morn k n (by omega)] at this
    exact this
  have hstep : ∀ k, k < n → 0 ≤ wayT true sz 2 rt cap st k → wayT true sz 2 rt cap st k ≤ wayT false sz 2 rt cap st k → wayT false sz 2 rt cap st k ≤ sz →
      wayT true sz 2 rt cap st k + bringI true sz 2 rt cap (wayT true sz 2 rt cap st k) ≤ wayT false sz 2 rt cap st k + bringI false sz 2 rt cap (wayT false sz 2 rt cap st k) ∧
      wayT false sz 2 rt cap st k + bringI false sz 2 rt cap (wayT false sz 2 rt cap st k) ≤ sz := by
    intro k hk
    generalize wayT true sz 2 rt cap st k = a
    generalize wayT false sz 2 rt cap st k = b
    intro ha hab hbs
    unfold bringI mostI
    rw [if_neg (show ¬ (false = true ∧ rt ≤ b) by simp), show max b 0 = b by omega, show max a 0 = a by omega]
    split <;> split <;> (try split) <;> (try split) <;> (try split) <;> simp at * <;> omega
  intro k
  induction k with
  | zero =>
    intro _
    refine ⟨h0, Int.le_refl _, h1, fun hk => ?_⟩
    have s := hstep 0 hk h0 (Int.le_refl _) h1
    have d := hday 0 hk
    unfold okDay noon
    rw [nth_wayQ 0 n hk, ← wayT_morn 0 n (by omega)]
    simp
    omega
  | succ k ih =>
    intro hk
    obtain ⟨i1, i2, i3, _⟩ := ih (by omega)
    have s := hstep k (by omega) i1 i2 i3
    have d := hday k (by omega)
    have g0 : 0 ≤ wayT true sz 2 rt cap st (k + 1) := by rw [wayT_succ]; omega
    have g1 : wayT true sz 2 rt cap st (k + 1) ≤ wayT false sz 2 rt cap st (k + 1) := by rw [wayT_succ, wayT_succ]; omega
    have g2 : wayT false sz 2 rt cap st (k + 1) ≤ sz := by rw [wayT_succ]; omega
    refine ⟨g0, g1, g2, fun hk1 => ?_⟩
    have s := hstep (k + 1) hk1 g0 g1 g2
    have d := hday (k + 1) hk1
    unfold okDay noon
    rw [nth_wayQ (k + 1) n hk1, ← wayT_morn (k + 1) n (by omega)]
    simp
    omega
end

section
open Go.RowKit
set_option linter.unusedVariables false
set_option maxRecDepth 100000

/-- With a greater capacity the daily way has no less there, and may be where it could. -/
theorem daily_wider (sz rt a b st : Int) (n : Nat) (ha : 0 ≤ a) (hab : a ≤ b) (h0 : 0 ≤ st) (h1 : st ≤ sz) (hr : 0 ≤ rt) (hok : ∀ k, k < n → okDay st rt sz (wayQ false sz 2 rt a st n) k = true) :
    ∀ k, k ≤ n → 0 ≤ wayT false sz 2 rt a st k ∧ wayT false sz 2 rt a st k ≤ wayT false sz 2 rt b st k ∧ wayT false sz 2 rt b st k ≤ sz ∧
      (k < n → okDay st rt sz (wayQ false sz 2 rt b st n) k = true) := by
  have hday : ∀ k, k < n → wayT false sz 2 rt a st k + bringI false sz 2 rt a (wayT false sz 2 rt a st k) ≤ sz ∧ rt ≤ wayT false sz 2 rt a st k + bringI false sz 2 rt a (wayT false sz 2 rt a st k) := by
    intro k hk
    have := okDay_bd (hok k hk)
    unfold noon at this
    rw [nth_wayQ k n hk, ← wayT_morn k n (by omega)] at this
    exact this
  have hstep : ∀ k, k < n → 0 ≤ wayT false sz 2 rt a st k → wayT false sz 2 rt a st k ≤ wayT false sz 2 rt b st k → wayT false sz 2 rt b st k ≤ sz →
      wayT false sz 2 rt a st k + bringI false sz 2 rt a (wayT false sz 2 rt a st k) ≤ wayT false sz 2 rt b st k + bringI false sz 2 rt b (wayT false sz 2 rt b st k) ∧
      wayT false sz 2 rt b st k + bringI false sz 2 rt b (wayT false sz 2 rt b st k) ≤ sz := by
    intro k hk
    generalize wayT false sz 2 rt a st k = x
    generalize wayT false sz 2 rt b st k = y
    intro hx hxy hys
    unfold bringI mostI
    rw [if_neg (show ¬ (false = true ∧ rt ≤ x) by simp), if_neg (show ¬ (false = true ∧ rt ≤ y) by simp), show max x 0 = x by omega, show max y 0 = y by omega]
    split <;> split <;> (try split) <;> (try split) <;> (try split) <;> simp at * <;> omega
  intro k
  induction k with
  | zero =>
    intro _
    refine ⟨h0, Int.le_refl _, h1, fun hk => ?_⟩
    have s := hstep 0 hk h0 (Int.le_refl _) h1
    have d := hday 0 hk
    unfold okDay noon
    rw [nth_wayQ 0 n hk, ← wayT_morn 0 n (by omega)]
    simp
    omega
  | succ k ih =>
    intro hk
    obtain ⟨i1, i2, i3, _⟩ := ih (by omega)
    have s := hstep k (by omega) i1 i2 i3
    have d := hday k (by omega)
    have g0 : 0 ≤ wayT false sz 2 rt a st (k + 1) := by rw [wayT_succ]; omega
    have g1 : wayT false sz 2 rt a st (k + 1) ≤ wayT false sz 2 rt b st (k + 1) := by rw [wayT_succ, wayT_succ]; omega
    have g2 : wayT false sz 2 rt b st (k + 1) ≤ sz := by rw [wayT_succ]; omega
    refine ⟨g0, g1, g2, fun hk1 => ?_⟩
    have s := hstep (k + 1) hk1 g0 g1 g2
    have d := hday (k + 1) hk1
    unfold okDay noon
    rw [nth_wayQ (k + 1) n hk1, ← wayT_morn (k + 1) n (by omega)]
    simp
    omega

/-! ### A row of fills -/
/-- What is there on the morning of day d behind a fill on the day last (below 0: none). -/
def thereI (st sz rt : Int) (d : Nat) (last : Int) : Int := if 0 ≤ last then sz - rt * (d - last) else st - rt * d
/-- A fill on the day last may come ahead of day d. -/
def okLast (st sz rt : Int) (S d : Nat) (last : Int) : Bool := decide (0 ≤ thereI st sz rt d last) && (decide (last < 0) || S.testBit last.toNat)
def fillLast (st sz ru rt cap : Int) (S d : Nat) (last : Int) : Bool := okLast st sz rt S d last && decide (0 < mostI sz ru (thereI st sz rt d last) cap)
def fillNow (st sz ru rt cap : Int) (S d j : Nat) : Bool := (List.range j).any fun i => fillLast st sz ru rt cap S d ((i : Int) - 1)
def fillSet (st sz ru rt cap : Int) : Nat → Nat
  | 0 => 0
  | d + 1 => if fillNow st sz ru rt cap (fillSet st sz ru rt cap d) d (d + 1) = true then withN (fillSet st sz ru rt cap d) d else fillSet st sz ru rt cap d
def endNow (st sz rt : Int) (S n j : Nat) : Bool := (List.range j).any fun i => okLast st sz rt S n ((i : Int) - 1)
def fillsB (st sz ru rt cap : Int) (n : Nat) : Bool := endNow st sz rt (fillSet st sz ru rt cap n) n (n + 1)
theorem fillSet_lt (st sz ru rt cap : Int) (d : Nat) : fillSet st sz ru rt cap d < 18446744073709551616 := by
  induction d with
  | zero => exact (by decide : (0 : Nat) < 18446744073709551616)
  | succ d ih =>
    unfold fillSet
    split
    · exact with_lt _ ih
    · exact ih
theorem any_succ (f : Nat → Bool) (j : Nat) : (List.range (j + 1)).any f = ((List.range j).any f || f j) := by
  rw [List.range_succ, List.any_append]
  simp
theorem most_wider (sz ru there a b : Int) (hab : a ≤ b) (ha : 0 ≤ a) (h : 0 < mostI sz 1 there a) : 0 < mostI sz 1 there b := by
  unfold mostI at *
  split at h
  · omega
  · rw [if_neg (by omega)]
    split at h
    · rw [if_pos (by omega)]; exact h
    · simp at h
theorem okLast_mono (st sz rt : Int) (S T d : Nat) (last : Int) (hST : ∀ k, S.testBit k = true → T.testBit k = true) (h : okLast st sz rt S d last = true) : okLast st sz rt T d last = true := by
  unfold okLast at *
  rw [Bool.and_eq_true, Bool.or_eq_true] at *
  exact ⟨h.1, h.2.imp id (hST _)⟩
theorem fillSet_mono (st sz rt a b : Int) (ha : 0 ≤ a) (hab : a ≤ b) : ∀ d, d ≤ 64 → ∀ k, (fillSet st sz 1 rt a d).testBit k = true → (fillSet st sz 1 rt b d).testBit k = true := by
  intro d
  induction d with
  | zero => intro _ k h; simp [fillSet] at h
  | succ d ih =>
    intro hd k h
    have ih' := ih (by omega)
    by_cases hk : k < 64
    · unfold fillSet at h ⊢
      by_cases hb : fillNow st sz 1 rt b (fillSet st sz 1 rt b d) d (d + 1) = true
      · rw [if_pos hb, test_with' _ _ k hk, Bool.or_eq_true]
        split at h
        · rw [test_with' _ _ k hk, Bool.or_eq_true] at h
          exact h.imp (ih' k) id
        · exact .inl (ih' k h)
      · rw [if_neg hb]
        split at h
        · rename_i hfa
          exfalso
          apply hb
          unfold fillNow at hfa ⊢
          rw [List.any_eq_true] at hfa ⊢
          obtain ⟨i, hi, hf⟩ := hfa
          refine ⟨i, hi, ?_⟩
          unfold fillLast at hf ⊢
          rw [Bool.and_eq_true, decide_eq_true_eq] at hf ⊢
          exact ⟨okLast_mono _ _ _ _ _ _ _ ih' hf.1, most_wider _ 1 _ _ _ hab ha hf.2⟩
        · exact ih' k h
    · rw [test_over (fillSet_lt _ _ _ _ _ _) (by omega)] at h
      cases h
theorem fillsB_mono (st sz rt a b : Int) (n : Nat) (hn : n ≤ 64) (ha : 0 ≤ a) (hab : a ≤ b) (h : fillsB st sz 1 rt a n = true) : fillsB st sz 1 rt b n = true := by
  unfold fillsB endNow at *
  rw [List.any_eq_true] at *
  obtain ⟨i, hi, hf⟩ := h
  exact ⟨i, hi, okLast_mono _ _ _ _ _ _ _ (fillSet_mono st sz rt a b ha hab n hn) hf⟩

/-! ### How many visits there must be -/
def wantsI (rt st : Int) (n : Nat) : Int := max (rt * n - st) 0
def ceilI (w m : Int) : Int := (w + m - 1) / m
def forcedI (rt st sz : Int) (n : Nat) (cap : Int) : Int := if wantsI rt st n = 0 then 0 else if min cap sz < 1 then n else min (ceilI (wantsI rt st n) (min cap sz)) n
theorem ceil_mono (w a b : Int) (hw : 0 ≤ w) (ha : 0 < a) (hab : a ≤ b) : ceilI w b ≤ ceilI w a := by
  unfold ceilI
  have h1 : w ≤ a * ((w + a - 1) / a) := by
    have := Int.mul_ediv_add_emod (w + a - 1) a
    have := Int.emod_lt_of_pos (w + a - 1) ha
    omega
  have h0 : 0 ≤ (w + a - 1) / a := Int.ediv_nonneg (by omega) (by omega)
  have h2 : a * ((w + a - 1) / a) ≤ b * ((w + a - 1) / a) := Int.mul_le_mul_of_nonneg_right hab h0
  generalize (w + a - 1) / a = x at *
  have h3 : w + b - 1 < b * (x + 1) := by rw [Int.mul_add]; omega
  have := Int.ediv_lt_of_lt_mul (a := w + b - 1) (b := x + 1) (c := b) (by omega) (by rw [Int.mul_comm]; exact h3)
  omega
theorem forced_wider (rt st sz : Int) (n : Nat) (a b : Int) (hab : a ≤ b) : forcedI rt st sz n b ≤ forcedI rt st sz n a := by
  unfold forcedI
  by_cases hw : wantsI rt st n = 0
  · rw [if_pos hw, if_pos hw]; exact Int.le_refl _
  · rw [if_neg hw, if_neg hw]
    by_cases h1 : min a sz < 1
    · rw [if_pos h1]
      split <;> omega
    · rw [if_neg h1, if_neg (by omega)]
      have := ceil_mono (wantsI rt st n) (min a sz) (min b sz) (by unfold wantsI; omega) (by omega) (by omega)
      omega
end

section
open Go.RowKit
set_option linter.unusedVariables false
set_option maxRecDepth 100000
end

end Go.Proofs.YtnhcgpkcmfelkaaGreat
