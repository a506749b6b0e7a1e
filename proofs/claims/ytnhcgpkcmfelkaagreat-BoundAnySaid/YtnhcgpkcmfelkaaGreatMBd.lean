/-
  My own work: layer 18, plainly: what a customer must have, and what is told of all of them together.
  My own work: slices.Repeat of one number: its contract.
  My own work: inst.Cheap: its contract.
  My own work: bound.reader: forced, must, arcs; Price: their contracts.
  My own work: bound.sum, Least, Base, Value, Best: their contracts.
  My own work: layer 18, plainly: how great the bound of a customer is.
  My own work: bound.Base, Value, Best: their contracts.
  My own work: bound.Climb: its contract.
  My own work: tranterlaw18.lives: its contract.
-/
import Derived.Test.YtnhcgpkcmfelkaaGreatAloneAA
import Derived.Test.YtnhcgpkcmfelkaaGreatMOwn
import Derived.Test.YtnhcgpkcmfelkaaGreatMGood
import Derived.Test.YtnhcgpkcmfelkaaGreatMVis
import Derived.Deep.RegionLaw
import Derived.Deep.DeepCutAuto
import Derived.Deep.DrawnRows
import Derived.StillTailTactics
import Derived.Laws.CopyOwn
import Derived.Test.YtnhcgpkcmfelkaaGreatExt
import Derived.Test.YtnhcgpkcmfelkaaGreatOwnCopy
import Derived.Test.YtnhcgpkcmfelkaaGreatAloneAB
import Derived.Test.YtnhcgpkcmfelkaaGreatNumC
import Derived.Test.YtnhcgpkcmfelkaaGreatMPol
import Derived.Test.YtnhcgpkcmfelkaaGreatAloneAC
import Derived.Test.YtnhcgpkcmfelkaaGreatMDual
import Derived.Test.YtnhcgpkcmfelkaaGreatDraw
import Derived.Test.YtnhcgpkcmfelkaaGreatMNum
import Derived.Test.YtnhcgpkcmfelkaaGreatLiveX
namespace Go.Proofs.YtnhcgpkcmfelkaaGreat
section
open Go.RowKit
set_option linter.unusedVariables false
set_option maxRecDepth 100000

/-- A customer that may be. -/
def OkC (n : Nat) (C : Cu) : Prop := CuOk n C.kd C.dm C.ps C.rt C.sz C.st C.ru C.hd
def forcedC (n : Nat) (cap : Int) (C : Cu) : Int := forcedV C.kd C.ps C.rt C.st C.sz n cap
def mustC (n : Nat) (cap : Int) (C : Cu) : Int := if C.kd = 1 then forcedC n cap C * C.dm else wantsI C.rt C.st n
/-- A customer's price. -/
def priceI2 (O I : List Int) (i : Nat) : Int := nth O (i + 1) + nth I (i + 1)
def aloneC (n : Nat) (cap : Int) (p : Int) (C : Cu) : Int := boundI C.kd C.dm C.ps C.rt C.sz C.st C.ru C.hd cap (List.replicate n p) n
/-- The least arc that comes to a place, of the first places. -/
def comeUpto (D : List (List Int)) (b : Nat) : Nat → Int
  | 0 => arcI D 0 b
  | k + 1 => if k = b then comeUpto D b k else min (comeUpto D b k) (arcI D k b)
/-- .. of a customer. -/
def cheapI (D : List (List Int)) (N i : Nat) : Int := comeUpto D (i + 1) (N + 1)

/-- All together. -/
def sumUpto (f : Nat → Int) : Nat → Int
  | 0 => 0
  | k + 1 => sumUpto f k + f k
theorem sumUpto_bd (f : Nat → Int) (b : Int) (k : Nat) (h : ∀ i, i < k → 0 ≤ f i ∧ f i ≤ b) : 0 ≤ sumUpto f k ∧ sumUpto f k ≤ b * k := by
  induction k with
  | zero => simp [sumUpto]
  | succ k ih =>
    have h1 := ih (fun i hi => h i (by omega))
    have h2 := h k (by omega)
    rw [sumUpto, Int.natCast_succ, Int.mul_add, Int.mul_one]
    omega
theorem sumUpto_le (f g : Nat → Int) (k : Nat) (h : ∀ i, i < k → f i ≤ g i) : sumUpto f k ≤ sumUpto g k := by
  induction k with
  | zero => exact Int.le_refl _
  | succ k ih =>
    have h1 := ih (fun i hi => h i (by omega))
    have h2 := h k (by omega)
    rw [sumUpto, sumUpto]
    omega
theorem sumUpto_congr (f g : Nat → Int) (k : Nat) (h : ∀ i, i < k → f i = g i) : sumUpto f k = sumUpto g k := by
  induction k with
  | zero => rfl
  | succ k ih => rw [sumUpto, sumUpto, ih (fun i hi => h i (by omega)), h k (by omega)]
/-- The most. -/
def mostUpto (f : Nat → Int) : Nat → Int
  | 0 => 0
  | k + 1 => max (mostUpto f k) (f k)
theorem mostUpto_bd (f : Nat → Int) (b : Int) (hb : 0 ≤ b) (k : Nat) (h : ∀ i, i < k → f i ≤ b) : 0 ≤ mostUpto f k ∧ mostUpto f k ≤ b := by
  induction k with
  | zero => simp [mostUpto]; exact hb
  | succ k ih =>
    have h1 := ih (fun i hi => h i (by omega))
    have h2 := h k (by omega)
    rw [mostUpto]
    omega
theorem mostUpto_le (f g : Nat → Int) (k : Nat) (h : ∀ i, i < k → f i ≤ g i) : mostUpto f k ≤ mostUpto g k := by
  induction k with
  | zero => exact Int.le_refl _
  | succ k ih =>
    have h1 := ih (fun i hi => h i (by omega))
    have h2 := h k (by omega)
    rw [mostUpto, mostUpto]
    omega
theorem mostUpto_at (f : Nat → Int) (k i : Nat) (h : i < k) : f i ≤ mostUpto f k := by
  induction k with
  | zero => omega
  | succ k ih =>
    rw [mostUpto]
    by_cases e : i = k
    · subst e; omega
    · have := ih (by omega); omega

/-- The least tours. -/
def leastT (n : Nat) (cap : Int) (L : List Cu) : Int :=
  let m := mostUpto (fun i => forcedC n cap (nthC L i)) L.length
  if 0 < cap then max m (ceilI (sumUpto (fun i => mustC n cap (nthC L i)) L.length) cap) else m
def valueT (n : Nat) (cap : Int) (L : List Cu) (O I : List Int) : Int :=
  sumUpto (fun i => aloneC n cap (priceI2 O I i) (nthC L i)) L.length + (nth O 0 + nth I 0) * leastT n cap L
def baseT (n : Nat) (cap : Int) (L : List Cu) (D : List (List Int)) : Int := sumUpto (fun i => cheapI D L.length i * forcedC n cap (nthC L i)) L.length
def bestT (n : Nat) (cap : Int) (L : List Cu) (D : List (List Int)) (O I : List Int) : Int := max (valueT n cap L O I) (baseT n cap L D)

theorem forcedC_bd {n : Nat} (cap : Int) (hn : n ≤ 20) {C : Cu} (h : OkC n C) : 0 ≤ forcedC n cap C ∧ forcedC n cap C ≤ 64 := forcedV_bd cap hn h
theorem wantsI_bd {st rt sz ru hd : Int} {n : Nat} (T : TankOk st rt sz ru hd) (hn : n ≤ 20) : 0 ≤ wantsI rt st n ∧ wantsI rt st n ≤ 2000 := by
  have h1 : rt * n ≤ 100 * 20 := Int.mul_le_mul T.rt1 (by omega) (by omega) (by omega)
  have := T.st0
  unfold wantsI
  omega
theorem mustC_bd {n : Nat} (cap : Int) (hn : n ≤ 20) {C : Cu} (h : OkC n C) : 0 ≤ mustC n cap C ∧ mustC n cap C ≤ 2000 := by
  have hf := forcedC_bd cap hn h
  unfold mustC
  rcases h with ⟨h1, h2, h3, _⟩ | ⟨h1, T⟩
  · rw [if_pos h1]
    have a := Int.mul_nonneg hf.1 (show 0 ≤ C.dm by omega)
    have b := Int.mul_le_mul hf.2 h3 (show 0 ≤ C.dm by omega) (by omega)
    omega
  · rw [if_neg (by omega)]
    exact wantsI_bd T hn
theorem leastT_bd {n : Nat} (cap : Int) (hn : n ≤ 20) {L : List Cu} (hL : L.length ≤ 100) (h : ∀ C ∈ L, OkC n C) : 0 ≤ leastT n cap L ∧ leastT n cap L ≤ 200100 := by
  have h1 := mostUpto_bd (fun i => forcedC n cap (nthC L i)) 64 (by decide) L.length (fun i hi => (forcedC_bd cap hn (h _ (nthC_mem hi))).2)
  have h2 := sumUpto_bd (fun i => mustC n cap (nthC L i)) 2000 L.length (fun i hi => mustC_bd cap hn (h _ (nthC_mem hi)))
  unfold leastT
  simp only []
  by_cases hc : 0 < cap
  · rw [if_pos hc]
    generalize sumUpto (fun i => mustC n cap (nthC L i)) L.length = S at *
    generalize mostUpto (fun i => forcedC n cap (nthC L i)) L.length = M at *
    have h3 : 0 ≤ ceilI S cap := by unfold ceilI; exact Int.ediv_nonneg (by omega) (by omega)
    have h4 : ceilI S cap ≤ S := by
      unfold ceilI
      have : S + cap - 1 < cap * (S + 1) := by
        rw [Int.mul_add, Int.mul_one]
        have := Int.mul_le_mul_of_nonneg_right (show (1 : Int) ≤ cap by omega) (show 0 ≤ S by omega)
        omega
      have := Int.ediv_lt_of_lt_mul (a := S + cap - 1) (b := S + 1) (c := cap) (by omega) (by rw [Int.mul_comm]; exact this)
      omega
    omega
  · rw [if_neg hc]; omega
end

section
open Go.RowKit
set_option linter.unusedVariables false
set_option maxRecDepth 100000
attribute [local go_sem ↓] Go.wp_at_zero Go.wp_at_succ

set_option maxHeartbeats 1600000 in
theorem mul64_is (n : Nat) (w : World) (hn : n ≤ 7) (hn1 : 1 ≤ n) : Calls Tryz.prog 101 #[.int .u64 1, .int .u64 (n : Int)] w fun e w' => e = .returned (.tuple #[.int .u64 0, .int .u64 (n : Int)]) ∧ w = w' := by
  have hn' : n = 1 ∨ n = 2 ∨ n = 3 ∨ n = 4 ∨ n = 5 ∨ n = 6 ∨ n = 7 := by omega
  rcases hn' with rfl | rfl | rfl | rfl | rfl | rfl | rfl
  all_goals
    go_enter Tryz.func101, Tryz.ntmps101
    go_wp2_with fail
    go_ret2
    exact ⟨rfl, rfl⟩
set_option maxHeartbeats 1600000 in
theorem mul_is (n : Nat) (w : World) (hn : n ≤ 7) (hn1 : 1 ≤ n) : Calls Tryz.prog 82 #[.int .u64 1, .int .u64 (n : Int)] w fun e w' => e = .returned (.tuple #[.int .u64 0, .int .u64 (n : Int)]) ∧ w = w' := by
  have H := Lib.hid (mul64_is n w hn hn1)
  go_enter Tryz.func82, Tryz.ntmps82
  go_wp2_with fail
  refine H.out.mono ?_
  rintro e w' ⟨rfl, rfl⟩
  go_wp2_with fail
  go_ret2
  exact ⟨rfl, rfl⟩

/-- The first m cells hold p. -/
def fillL (p : Int) (m N : Nat) : List Value := List.replicate m (.int .i64 p) ++ List.replicate (N - m) (.int .i64 0)
theorem fillL_len (p : Int) (m N : Nat) (h : m ≤ N) : (fillL p m N).length = N := by simp [fillL]; omega
theorem fillL_splice (p : Int) (m c N : Nat) (h : m + c ≤ N) : splice (fillL p m N) m (List.replicate c (.int .i64 p)) = fillL p (m + c) N := by
  unfold splice fillL
  rw [List.take_append_of_le_length (by simp), List.take_of_length_le (by simp), List.length_replicate, ← List.append_assoc, List.replicate_append_replicate]
  congr 1
  rw [List.drop_append, List.drop_of_length_le (by simp), List.length_replicate, List.nil_append, List.drop_replicate]
  congr 1
  omega
theorem fillL_cell {w : World} {g N m : Nat} {p : Int} {T : TypeId} (hg : w.heap[g]? = some (.cells (fillL p m N).toArray T (0, 0))) (h : m ≤ N) (c : Nat) (hc : c ≤ m) : ∀ j v, (List.replicate c (Value.int .i64 p))[j]? = some v → w.cell? ((⟨g, 0, none⟩ : Addr).add j) = some v := by
  intro j v hj
  have hjc : j < c := by
    have := (List.getElem?_eq_some_iff.1 hj).1
    simpa using this
  have hv : v = .int .i64 p := by
    rw [List.getElem?_replicate] at hj
    rw [if_pos hjc] at hj
    exact (Option.some.inj hj).symm
  have ha : (⟨g, 0, none⟩ : Addr).add j = ⟨g, 0 + j, none⟩ := by unfold Addr.add; split <;> simp_all
  rw [ha, Nat.zero_add, hv]
  unfold World.cell?
  have hl : (fillL p m N)[j]? = some (.int .i64 p) := by
    unfold fillL
    rw [List.getElem?_append_left (by simp; omega), List.getElem?_replicate, if_pos (by omega)]
  simp [hg, hl]

set_option maxHeartbeats 3200000 in
theorem repeat_is (xv : Value) (p : Int) (N : Nat) (w : World) (hx : Ints w xv [p]) (hN1 : 1 ≤ N) (hN : N ≤ 7) :
    Calls Tryz.prog 58 #[xv, .int .i64 N] w fun e w' => ∃ v, e = .returned v ∧ Own w' w.heap.size v (List.replicate N p) ∧ Below w.heap.size w w' := by
  obtain ⟨xa, m, xc, rfl, hm, _, hcell⟩ := hx.open
  have hm1 : m = 1 := by simpa using hm.symm
  subst hm1
  obtain ⟨b, o, rfl, hc0⟩ := hcell 0 (by omega)
  have Hc0 := Lib.hid hc0
  have Hmul := Lib.hid (mul_is N w hN hN1)
  obtain ⟨ii, hi, hz, hsi, hby⟩ := info_parts info_int
  have hw1 : IntKind.u64.wrap (N : Int) = (N : Int) := IntWalk.u64_in _ (by omega)
  have hw2 : IntKind.i64.wrap (N : Int) = (N : Int) := IntWalk.i64_in _ (by omega)
  clear hcell hm hx hc0
  go_enter Tryz.func58, Tryz.ntmps58
  go_wp2_with fail
  refine Hmul.out.mono ?_
  rintro e w' ⟨rfl, rfl⟩
  go_wp2_with (at_make; refine wpList_make_full _ rfl _ _ 26 rfl w.heap.size 3 ii (.int .i64 0) 1 Tryz.underlying26 hi hz hsi _ _ _ _ N rfl rfl rfl rfl (by rw [hby]; omega) (by simp only [maxLen]; omega) (Nat.le_refl _) ?_)
  intro w3 hown0 hg3
  have hrow : w3.heap[w.heap.size]? = some (.cells (fillL p 0 N).toArray 3 (0, 0)) := by
    obtain ⟨h1, h2⟩ := hown0
    rcases h2 with ⟨h0, _⟩ | ⟨g', cap, cur, hv, hb, hg, h3, h4, h5, h6⟩
    · simp at h0
    · simp only [Value.slice.injEq, Option.some.injEq, Addr.mk.injEq, and_true] at hv
      obtain ⟨rfl, _, rfl⟩ := hv
      rw [toList_madeCells_one, Nat.mul_one, List.take_of_length_le (by simp; omega)] at h6
      rw [hg]
      have e : cur = (fillL p 0 N).toArray := by
        apply Array.toList_inj.1
        rw [h6]
        simp [fillL]
      rw [e]
  have hb3 := (Below.refl w.heap.size w).grown hg3 (Nat.le_refl _) (by simp)
  have Hrow := Lib.hid hrow
  have hc3 := cell_below hb3 Hc0.out
  have Hb3 := Lib.hid hb3
  have hlt3 : w.heap.size < w3.heap.size := by
    have := (Array.getElem?_eq_some_iff.1 hrow).1
    exact this
  clear hrow hown0 hg3 hb3 hi hz hsi hby
  obtain ⟨g, hgg⟩ : ∃ g, g = w.heap.size := ⟨_, rfl⟩
  rw [← hgg] at Hrow Hb3 hlt3 ⊢
  have Hgg := Lib.hid hgg
  clear hgg
  have hsrc : ∀ j v, ([.int .i64 p] : List Value)[j]? = some v → w3.cell? ((⟨b, o, none⟩ : Addr).add j) = some v := fun j v hj => by
    match j, hj with
    | 0, hj =>
      simp at hj
      subst hj
      have ha : (⟨b, o, none⟩ : Addr).add 0 = ⟨b, o + 0, none⟩ := by unfold Addr.add; split <;> simp_all
      rw [ha]
      exact hc3
  have Hsrc := Lib.hid hsrc
  clear hsrc
  have hfl := fillL_splice p 0 1 N (by omega)
  have Hfl := Lib.hid hfl
  have Hlen : Hid ((fillL p 0 N).length = N) := Lib.hid (fillL_len p 0 N (Nat.zero_le _))
  clear hfl
  have H1 : Hid (([.int .i64 p] : List Value).length = Nat.min 1 N) := Lib.hid (by simp [Nat.min_eq_left hN1])
  have H2 : Hid (0 < ([.int .i64 p] : List Value).length → some (⟨g, 0, none⟩ : Addr) = some ⟨g, 0, none⟩ ∧ ∃ ad, some (⟨b, o, none⟩ : Addr) = some ad ∧ ∀ j v, ([.int .i64 p] : List Value)[j]? = some v → w3.cell? (ad.add j) = some v) := Lib.hid (fun _ => ⟨rfl, _, rfl, Hsrc.out⟩)
  have H3 : Hid (0 + ([.int .i64 p] : List Value).length ≤ (fillL p 0 N).length) := Lib.hid (by rw [Hlen.out]; simp; exact hN1)
  have H4 : Hid (∀ v ∈ ([.int .i64 p] : List Value), v.oneCell' = true) := Lib.hid (by intro v hv; simp at hv; subst hv; rfl)
  have H5 : Hid ((Tryz.prog.info? 3).map (·.size) = some 1) := Lib.hid (by kernel_rfl)
  go_wp2_with (with_reducible refine wpList_copy_splice rfl (.tmp 31) (.tmp 32) 26 26 rfl 3 Tryz.underlying26 H5.out (some ⟨g, 0, none⟩) (some ⟨b, o, none⟩) N N 1 xc rfl rfl g 0 (fillL p 0 N) 3 Hrow.out [.int .i64 p] H1.out H2.out H3.out H4.out g w Hb3.out (Nat.le_refl _) ?_)
  intro w4 hr4 hb4
  have hr4' : w4.heap[g]? = some (.cells (fillL p 1 N).toArray 3 (0, 0)) := by
    have h := hr4.out
    have e : ([.int .i64 p] : List Value) = List.replicate 1 (.int .i64 p) := rfl
    rw [e, Hfl.out] at h
    exact h
  have Hr4 := Lib.hid hr4'
  clear hr4 hr4' Hrow Hb3 Hsrc Hfl H1 H2 H3 H4 Hlen
  go_wp2_with fail
  go_loopw [8] (fun s wr => ∃ (k : Nat), 1 ≤ k ∧ k ≤ N ∧ s = .int .i64 k ∧ Hid (wr.heap[g]? = some (.cells (fillL p k N).toArray 3 (0, 0))) ∧ Below g w wr) (fun s _ => N - (intOf s).toNat)
  case atStart => exact ⟨1, Nat.le_refl _, hN1, rfl, Hr4, hb4⟩
  case round =>
    obtain ⟨k, hk1, hk, rfl, Hr, hb⟩ := hrel
    by_cases hlt : k < N
    · obtain ⟨c, hc⟩ : ∃ c, c = min k (N - k) := ⟨_, rfl⟩
      have hc1 : 1 ≤ c := by omega
      have hck : c ≤ k := by omega
      have hcN : k + c ≤ N := by omega
      have Hfl := Lib.hid (fillL_splice p k c N hcN)
      have Hce := Lib.hid hc
      have hi1 : (k : Int) < (N : Int) := by omega
      have hi0 : (0 : Int) ≤ (k : Int) := by omega
      have hi2 : (k : Int) ≤ (N : Int) := by omega
      have Hb := Lib.hid hb
      clear hc hb
      go_upto_region 9 with fail
      have H1 : Hid ((List.replicate c (Value.int .i64 p)).length = Nat.min k (N - k)) := Lib.hid (by rw [List.length_replicate]; exact Hce.out)
      have H2 : Hid (0 < (List.replicate c (Value.int .i64 p)).length → some (⟨g, k, none⟩ : Addr) = some ⟨g, k, none⟩ ∧ ∃ ad, some (⟨g, 0, none⟩ : Addr) = some ad ∧ ∀ j v, (List.replicate c (Value.int .i64 p))[j]? = some v → wr.cell? (ad.add j) = some v) := Lib.hid (fun _ => ⟨rfl, _, rfl, fillL_cell Hr.out hk c hck⟩)
      have H3 : Hid (k + (List.replicate c (Value.int .i64 p)).length ≤ (fillL p k N).length) := Lib.hid (by rw [fillL_len p k N hk, List.length_replicate]; exact hcN)
      have H4 : Hid (∀ v ∈ List.replicate c (Value.int .i64 p), v.oneCell' = true) := Lib.hid (by intro v hv; have := List.eq_of_mem_replicate hv; subst this; rfl)
      have H2d : Hid (0 < (List.replicate c (Value.int .i64 p)).length → some (⟨g, k, none⟩ : Addr) = some ⟨g, k, none⟩ ∧ ∃ ad, some (⟨g, 0, none⟩ : Addr) = some ad ∧ ∀ j v, (List.replicate c (Value.int .i64 p))[j]? = some v → wr.drew.cell? (ad.add j) = some v) := Lib.hid (fun h => H2.out h)
      have Hrd : Hid (wr.drew.heap[g]? = some (.cells (fillL p k N).toArray 3 (0, 0))) := Lib.hid Hr.out
      have Hbd : Hid (Below g w wr.drew) := Lib.hid Hb.out.drew
      obtain ⟨X, hX⟩ : ∃ X, X = List.replicate c (Value.int .i64 p) := ⟨_, rfl⟩
      obtain ⟨Y, hY⟩ : ∃ Y, Y = fillL p k N := ⟨_, rfl⟩
      rw [← hX] at H1 H2 H2d H3 H4 Hfl
      rw [← hY] at H3 Hr Hrd Hfl
      have hXl : X.length = c := by rw [hX, List.length_replicate]
      have HXl := Lib.hid hXl
      clear hX hY hXl
      have hcp := run_copy_row (P := Tryz.prog) wr.drew 26 26 3 3 g k (N - k) (N - k) ⟨g, 0, none⟩ k N Y.toArray 3 X Tryz.underlying26 H5.out Hrd.out H1.out (fun j v hj => by obtain ⟨_, ad, e, h⟩ := H2d.out (by have := (List.getElem?_eq_some_iff.1 hj).1; omega); cases e; exact h j v hj) (by simpa using H3.out) H4.out
      obtain ⟨w5, hw5⟩ : ∃ w5, w5 = wr.drew.setRow g (Y.toArray.toList.take k ++ X ++ Y.toArray.toList.drop (k + X.length)).toArray := ⟨_, rfl⟩
      rw [← hw5, HXl.out] at hcp
      have hr5 : w5.heap[g]? = some (.cells (fillL p (k + c) N).toArray 3 (0, 0)) := by
        rw [hw5, ← Hfl.out]
        unfold splice
        have := setRow_heap wr.drew g Y.toArray (Y.toArray.toList.take k ++ X ++ Y.toArray.toList.drop (k + X.length)).toArray 3 _ Hrd.out
        simpa using this
      have hb5 : Below g w w5 := by rw [hw5]; exact below_setRow Hbd.out (Nat.le_refl _) _
      have Hr5 := Lib.hid hr5
      have Hb5 := Lib.hid hb5
      have hwk : IntKind.i64.wrap ((k : Int) + (c : Int)) = (k : Int) + (c : Int) := IntWalk.i64_in _ (by omega)
      clear hw5 hr5 hb5 Hr Hb H1 H2 H2d H3 H4 Hrd Hbd Hfl HXl
      unfold goInt at hcp
      go_region
      all_goals
        go_wp2_with fail
        go_roundw
        case rel => exact ⟨k + c, by omega, hcN, by first | go_num | simp, Hr5, Hb5.out⟩
        case measure => simp [intOf]; omega
    · have hkn : k = N := by omega
      subst hkn
      go_wp2_with fail
      go_ret
      refine ⟨_, rfl, ?_, by rw [← Hgg.out]; exact hb⟩
      refine ⟨by simp, .inr ⟨g, k, (fillL p k k).toArray, by simp, Nat.le_of_eq Hgg.out.symm, Hr.out, by simp, by simp only [maxLen]; omega, by simp [fillL_len], ?_⟩⟩
      simp [fillL]
end

section
open Go.RowKit
set_option linter.unusedVariables false
set_option maxRecDepth 100000
attribute [local go_sem ↓] Go.wp_at_zero Go.wp_at_succ

/-- 'v = append(v, y)', and where the new slice lies. -/
theorem wpList_pushAt {ops : Array Oper} {rest : List Oper} {o : Oper} {a : Act} {Q : Exit → Act → World → Prop} (hgd : o.guard = none) (s x : Operand)
    (ho : o.op = .call { callee := .builtin .append, args := #[s, x], argTypes := #[26, 26] }) (w : World) (B : Nat) (v : Value) (xs : List Int) (y : Int) (hs : a.eval s = v)
    (hx : a.eval x = .slice (some ⟨w.heap.size, 0, none⟩) 1 1) (hown : Own w B v xs) (hlen : xs.length + 1 ≤ 1000000000000) (hB : B ≤ w.heap.size)
    (h : ∀ g c w', Own w' B (.slice (some ⟨g, 0, none⟩) (xs.length + 1) c) (xs ++ [y]) → w.grownBy w' v.ownBlock → Below B w w' → (v.ownBlock = some g ∨ w.heap.size ≤ g) → g < w'.heap.size → wpList Tryz.prog ops Q rest (a.put o.dst (.slice (some ⟨g, 0, none⟩) (xs.length + 1) c)) w') :
    wpList Tryz.prog ops Q (o :: rest) a (w.alloc (.cells #[.int .i64 y] 3)) := by
  have hlt := hown.lt
  refine wpList_pushN hgd s x 26 3 (.int .i64 0) 1 8 Tryz.underlying26 info_int rfl (by decide) (by decide) ho _ B v xs.length (xs.map (Value.int .i64)) [.int .i64 y] w.heap.size hs hx (Lies.new w [.int .i64 y] _) rfl
    (by intro u hu; simp at hu; subst hu; rfl) (World.ownsRow.alloc hown _) hlen (by simp; omega) ?_
  intro g cap w' h1 h2 h3 h4 h5 h6
  have hg' : w.grownBy w' v.ownBlock := grownBy_trans (World.grownBy_alloc w _ _) h2
  refine h g cap w' (by unfold Own; simpa using h1) hg' ((Below.refl B w).grown hg' hB (fun k hk => (hlt k hk).1)) ?_ h6
  rcases h4 with h4 | h4
  · exact .inl h4
  · exact .inr (by rw [h4]; simp)
/-- Two rows of the call's own that lie apart. -/
theorem apart_push {w w' : World} {B g n c : Nat} {av bv : Value} {X Y : List Int} (ha : Own w B av X) (hb : Own w B bv Y) (hne : ∀ k, av.ownBlock = some k → bv.ownBlock ≠ some k) (hg : w.grownBy w' av.ownBlock) (hat : av.ownBlock = some g ∨ w.heap.size ≤ g) :
    Own w' B bv Y ∧ ∀ k, (Value.slice (some ⟨g, 0, none⟩) n c).ownBlock = some k → bv.ownBlock ≠ some k := by
  refine ⟨hb.kept hg ?_, fun k hk e => ?_⟩
  · cases hv : bv.ownBlock with
    | none => exact .inl rfl
    | some k => exact .inr (fun e => hne k e.symm hv)
  · simp only [Value.ownBlock, Option.some.injEq] at hk
    subst hk
    rcases hat with hat | hat
    · exact hne _ hat e
    · have := (hb.lt _ e).2
      omega

/-- The least arc that leaves a place, to the first places. -/
def leaveUpto (D : List (List Int)) (a : Nat) : Nat → Int
  | 0 => arcI D a 0
  | k + 1 => if k = a then leaveUpto D a k else min (leaveUpto D a k) (arcI D a k)
def comeL (D : List (List Int)) (N k : Nat) : List Int := (List.range k).map (cheapI D N)
def leaveL (D : List (List Int)) (N k : Nat) : List Int := (List.range k).map fun i => leaveUpto D (i + 1) (N + 1)
theorem comeL_succ (D : List (List Int)) (N k : Nat) : comeL D N (k + 1) = comeL D N k ++ [cheapI D N k] := by unfold comeL; rw [List.range_succ, List.map_append]; rfl
theorem leaveL_succ (D : List (List Int)) (N k : Nat) : leaveL D N (k + 1) = leaveL D N k ++ [leaveUpto D (k + 1) (N + 1)] := by unfold leaveL; rw [List.range_succ, List.map_append]; rfl
theorem comeL_len (D : List (List Int)) (N k : Nat) : (comeL D N k).length = k := by simp [comeL]
theorem leaveL_len (D : List (List Int)) (N k : Nat) : (leaveL D N k).length = k := by simp [leaveL]
theorem nth_comeL (D : List (List Int)) (N : Nat) {k m : Nat} (h : k < m) : nth (comeL D N m) k = cheapI D N k := nth_map_range _ _ _ h

set_option maxHeartbeats 3200000 in
theorem cheap_is (i0 i1 i2 i3 : Int) (cv dv : Value) (L : List Cu) (D : List (List Int)) (w : World) (hC : Custs w cv L) (hG : Grid w dv D) (hN : L.length ≤ 4000) :
    Calls Tryz.prog 37 #[.agg #[.int .i64 i0, .int .i64 i1, .int .i64 i2, .int .i64 i3, cv, dv]] w fun e w' => ∃ v v2, e = .returned (.tuple #[v, v2]) ∧ Own w' w.heap.size v (comeL D L.length L.length) ∧ Below w.heap.size w w' := by
  obtain ⟨ca, N, cc, rfl, hn, _, _⟩ := hC.open
  obtain ⟨w1, ew, hb1, hsz1, hin⟩ := box_inst w (.int .i64 i0) (.int .i64 i1) (.int .i64 i2) (.int .i64 i3) (.slice ca N cc) dv
  have Hew := Lib.hid ew
  have Hin := Lib.hid hin
  have HA := Lib.hid (fun (W : World) (a b : Int) (h : Below w1.heap.size w1 W) => arc_is i0 i1 i2 i3 (.slice ca N cc) dv D a b W ((hG.below hb1).below h))
  have hN' : N ≤ 4000 := by omega
  have hsz : w.heap.size ≤ w1.heap.size := hb1.size
  rw [hn]
  obtain ⟨da, dn, dc, rfl, _⟩ := hG.open
  obtain ⟨c0, c1, c2, c3, c4, c5⟩ := hin
  clear ew hsz1 hC hG hn hN
  go_enter Tryz.func37, Tryz.ntmps37
  go_upto_region 1 with (fail)
  rw [Hew.out]
  go_wp2_with fail
  go_loopw [4, 5, 6, 7, 8, 9, 10, 14] (fun cm lv s6 s7 s8 s9 s10 i wr => ∃ (k : Nat) (x y y6 y7 y8 y9 y10 : Value), k ≤ N ∧ x = cm ∧ y = lv ∧ y6 = s6 ∧ y7 = s7 ∧ y8 = s8 ∧ y9 = s9 ∧ y10 = s10 ∧ i = .int .i64 k ∧ Own wr w1.heap.size x (comeL D N k) ∧ Own wr w1.heap.size y (leaveL D N k) ∧ (∀ j, x.ownBlock = some j → y.ownBlock ≠ some j) ∧ Below w1.heap.size w1 wr) (fun _ _ _ _ _ _ _ i _ => N - (intOf i).toNat)
  case atStart => exact ⟨0, _, _, _, _, _, _, _, Nat.zero_le _, rfl, rfl, rfl, rfl, rfl, rfl, rfl, rfl, Own.nil _ _, Own.nil _ _, (fun j h => by cases h), Below.refl _ _⟩
  case round =>
    obtain ⟨k, x, y, y6, y7, y8, y9, y10, hk, rfl, rfl, rfl, rfl, rfl, rfl, rfl, rfl, hx, hy, hne, hb⟩ := hrel
    obtain ⟨wo, rfl⟩ : ∃ wo : World, wo = wr := ⟨_, rfl⟩
    have Hb := Lib.hid hb
    have Hx := Lib.hid hx
    have Hy := Lib.hid hy
    have Hne := Lib.hid hne
    have hszr : w1.heap.size ≤ wo.heap.size := hb.size
    by_cases hlt : k < N
    · have hi1 : (k : Int) < (N : Int) := by omega
      have Hin2 := Lib.hid (Hin.out.below hb)
      obtain ⟨d0, d1, d2, d3, d4, d5⟩ := Hin2.out
      have x0 := Ext.cell d0
      have x1 := Ext.cell d1
      have x2 := Ext.cell d2
      have x3 := Ext.cell d3
      have x4 := Ext.cell d4
      have x5 := Ext.cell d5
      have HA2 := Lib.hid (fun (W : World) (a b : Int) (h : Below wo.heap.size wo W) => HA.out W a b (bel2 hb h))
      have hw1 : IntKind.i64.wrap ((k : Int) + 1) = ((k + 1 : Nat) : Int) := by rw [IntWalk.i64_in _ (by omega)]; omega
      have h0a : arcI D 0 ((k : Int) + 1) = comeUpto D (k + 1) 0 := rfl
      have h0b : arcI D ((k : Int) + 1) 0 = leaveUpto D (k + 1) 0 := rfl
      have H0a := Lib.hid h0a
      have H0b := Lib.hid h0b
      clear hb hx hy hne d0 d1 d2 d3 d4 d5 h0a h0b
      go_upto_region 6 with fail
      refine wp_region_ext (by kernel_rfl) (by kernel_rfl) ?_
      repeat (go_big_quiet_step (first
        | (go_at_call 64; exact ext_call _ (HA2.out _ _ _ (Ext.below _)))))
      refine wpQuiet_nil ?_
      intro _ hw'
      obtain ⟨z, rfl⟩ := hw'
      have hz := z.below
      generalize z.w = w2 at hz ⊢
      have Hz := Lib.hid hz
      have Hin3 := Lib.hid (Hin2.out.below hz)
      have HA3 := Lib.hid (fun (W : World) (a b : Int) (h : Below w2.heap.size w2 W) => HA2.out W a b (bel2 hz h))
      obtain ⟨d0, d1, d2, d3, d4, d5⟩ := Hin3.out
      clear x0 x1 x2 x3 x4 x5 z hz Hin2 HA2
      go_wp2_with fail
      go_loopw [8, 9, 10, 29] (fun s8 s9 s10 i wq => ∃ (j : Nat) (PP QQ : Int) (z10 : Value), j ≤ N + 1 ∧ z10 = s10 ∧ i = .int .i64 j ∧ s8 = .int .i64 PP ∧ s9 = .int .i64 QQ ∧ PP = comeUpto D (k + 1) j ∧ QQ = leaveUpto D (k + 1) j ∧ Below w2.heap.size w2 wq) (fun _ _ _ i _ => N + 1 - (intOf i).toNat)
      case atStart => exact ⟨0, _, _, _, Nat.zero_le _, rfl, rfl, rfl, rfl, H0a.out, H0b.out, Below.refl _ _⟩
      case round =>
        obtain ⟨j, PP, QQ, z10, hj, rfl, rfl, rfl, rfl, hPP, hQQ, hbq⟩ := hrel
        obtain ⟨wi, rfl⟩ : ∃ wi : World, wi = wr := ⟨_, rfl⟩
        have Hbq := Lib.hid hbq
        have HPP := Lib.hid hPP
        have HQQ := Lib.hid hQQ
        by_cases hjl : j < N + 1
        · have hi2 : (j : Int) < (N : Int) + 1 := by omega
          obtain ⟨e0, e1, e2, e3, e4, e5⟩ := Hin3.out.below hbq
          by_cases hjk : j = k + 1
          · have hne1 : ((j : Int) != (k : Int) + 1) = false := by simp; omega
            have hne2 : ((j : Int) == (k : Int) + 1) = true := by simp; omega
            have Hs1 : Hid (comeUpto D (k + 1) (j + 1) = PP) := Lib.hid (by rw [comeUpto, if_pos hjk, ← hPP])
            have Hs2 : Hid (leaveUpto D (k + 1) (j + 1) = QQ) := Lib.hid (by rw [leaveUpto, if_pos hjk, ← hQQ])
            clear hPP hQQ hjk hbq
            go_wp2_with fail
            go_roundw
            case rel => exact ⟨j + 1, PP, QQ, _, by omega, rfl, by go_num, rfl, rfl, Hs1.out.symm, Hs2.out.symm, Hbq.out⟩
            case measure => simp [intOf]; omega
          · have hne1 : ((j : Int) != (k : Int) + 1) = true := by simp; omega
            have hne2 : ((j : Int) == (k : Int) + 1) = false := by simp; omega
            have hs1 : comeUpto D (k + 1) (j + 1) = min PP (arcI D j ((k : Int) + 1)) := by rw [comeUpto, if_neg hjk, ← hPP]; rfl
            have hs2 : leaveUpto D (k + 1) (j + 1) = min QQ (arcI D ((k : Int) + 1) j) := by rw [leaveUpto, if_neg hjk, ← hQQ]; rfl
            have Hc1 := Lib.hid (fun (W : World) (h : Below w2.heap.size w2 W) => HA3.out W j ((k : Int) + 1) h)
            have Hc2 := Lib.hid (fun (W : World) (h : Below w2.heap.size w2 W) => HA3.out W ((k : Int) + 1) j h)
            generalize arcI D j ((k : Int) + 1) = X1 at *
            generalize arcI D ((k : Int) + 1) j = X2 at *
            have hm1 : (X1 < PP ∧ decide (X1 < PP) = true ∧ min PP X1 = X1) ∨ (¬ X1 < PP ∧ decide (X1 < PP) = false ∧ min PP X1 = PP) := by
              by_cases h : X1 < PP
              · exact .inl ⟨h, decide_eq_true h, by omega⟩
              · exact .inr ⟨h, decide_eq_false h, by omega⟩
            have hm2 : (X2 < QQ ∧ decide (X2 < QQ) = true ∧ min QQ X2 = X2) ∨ (¬ X2 < QQ ∧ decide (X2 < QQ) = false ∧ min QQ X2 = QQ) := by
              by_cases h : X2 < QQ
              · exact .inl ⟨h, decide_eq_true h, by omega⟩
              · exact .inr ⟨h, decide_eq_false h, by omega⟩
            clear hPP hQQ hjk hbq
            rcases hm1 with ⟨q1, q2, q3⟩ | ⟨q1, q2, q3⟩ <;> rcases hm2 with ⟨p1, p2, p3⟩ | ⟨p1, p2, p3⟩
            all_goals
              rw [q3] at hs1
              rw [p3] at hs2
              have Hs1 := Lib.hid hs1
              have Hs2 := Lib.hid hs2
              clear hs1 hs2 q3 p3
              go_wp2_with fail
              refine (Hc1.out _ Hbq.out).mono ?_
              rintro e w5 ⟨rfl, hb5⟩
              have hb25 := Hbq.out.trans (hb5.mono Hbq.out.size)
              obtain ⟨e0, e1, e2, e3, e4, e5⟩ := Hin3.out.below hb25
              have Hb25 := Lib.hid hb25
              clear hb5 hb25
              go_wp2_with fail
              refine (Hc2.out _ Hb25.out).mono ?_
              rintro e w6 ⟨rfl, hb6⟩
              have Hb26 := Lib.hid (Hb25.out.trans (hb6.mono Hb25.out.size))
              clear hb6
              go_wp2_with fail
              go_roundw
              case rel => exact ⟨j + 1, _, _, _, by omega, rfl, by go_num, rfl, rfl, Hs1.out.symm, Hs2.out.symm, Hb26.out⟩
              case measure => simp [intOf]; omega
        · have hjN : j = N + 1 := by omega
          subst hjN
          have HP2 : Hid (cheapI D N k = PP) := Lib.hid (by unfold cheapI; exact hPP.symm)
          have Hst1 := Lib.hid (comeL_succ D N k)
          have Hst2 := Lib.hid (leaveL_succ D N k)
          rw [HP2.out] at Hst1
          rw [← hQQ] at Hst2
          have hb2 := bel2 Hz.out hbq
          have Hx2 := Lib.hid (Hx.out.below hb2)
          have Hy2 := Lib.hid (Hy.out.below hb2)
          have Hb2 := Lib.hid (bel2 Hb.out hb2)
          have hsz2 : w1.heap.size ≤ wi.heap.size := Hb2.out.size
          have Hl1 : Hid ((comeL D N k).length + 1 ≤ 1000000000000) := Lib.hid (by rw [comeL_len]; omega)
          have Hl2 : Hid ((leaveL D N k).length + 1 ≤ 1000000000000) := Lib.hid (by rw [leaveL_len]; omega)
          generalize comeL D N k = CL at *
          generalize leaveL D N k = LL at *
          clear hPP hQQ hbq hb2
          go_wp2_with (at_builtin; refine wpList_pushAt rfl _ _ rfl wi w1.heap.size x CL PP rfl rfl Hx2.out Hl1.out hsz2 ?_)
          intro g5 c5 w5 hown5 hg5 hb5 hat5 hlt5
          rw [← Hst1.out] at hown5
          obtain ⟨hy5, hne5⟩ := apart_push (n := CL.length + 1) (c := c5) Hx2.out Hy2.out Hne.out hg5 hat5
          have Hown5 := Lib.hid hown5
          have Hy5 := Lib.hid hy5
          have Hne5 := Lib.hid hne5
          have Hb5 := Lib.hid (Hb2.out.trans hb5)
          have hsz5 : w1.heap.size ≤ w5.heap.size := Hb5.out.size
          clear hown5 hg5 hb5 hat5 hlt5 hy5 hne5
          go_wp2_with (at_builtin; refine wpList_pushAt rfl _ _ rfl w5 w1.heap.size y LL QQ rfl rfl Hy5.out Hl2.out hsz5 ?_)
          intro g6 c6 w6 hown6 hg6 hb6 hat6 hlt6
          rw [← Hst2.out] at hown6
          obtain ⟨hx6, hne6⟩ := apart_push (n := LL.length + 1) (c := c6) Hy5.out Hown5.out (fun j h e => Hne5.out j e h) hg6 hat6
          have Hown6 := Lib.hid hown6
          have Hx6 := Lib.hid hx6
          have Hne6 := Lib.hid hne6
          have Hb6 := Lib.hid (Hb5.out.trans hb6)
          clear hown6 hg6 hb6 hat6 hlt6 hx6 hne6
          go_wp2_with fail
          go_roundw
          case rel => exact ⟨k + 1, _, _, _, _, _, _, _, by omega, rfl, rfl, rfl, rfl, rfl, rfl, rfl, by go_num, Hx6.out, Hown6.out, fun j h e => Hne6.out j e h, Hb6.out⟩
          case measure => simp [intOf]; omega
    · have hkN : k = N := by omega
      subst hkN
      have hB := hb1.trans (hb.mono hsz)
      clear hb
      go_wp2_with fail
      go_ret2
      exact ⟨x, y, rfl, Hx.out.mono hsz, hB⟩
end

section
open Go.RowKit
set_option linter.unusedVariables false
set_option maxRecDepth 100000
attribute [local go_sem ↓] Go.wp_at_zero Go.wp_at_succ

/-- The bound's reader lies in block g. -/
structure IsRd (w : World) (g : Nat) (f0 f1 f2 f3 cv dv ov iv hv : Value) : Prop where
  c0 : w.cell? ⟨g, 0, none⟩ = some f0
  c1 : w.cell? ⟨g, 1, none⟩ = some f1
  c2 : w.cell? ⟨g, 2, none⟩ = some f2
  c3 : w.cell? ⟨g, 3, none⟩ = some f3
  c4 : w.cell? ⟨g, 4, none⟩ = some cv
  c5 : w.cell? ⟨g, 5, none⟩ = some dv
  c6 : w.cell? ⟨g, 6, none⟩ = some ov
  c7 : w.cell? ⟨g, 7, none⟩ = some iv
  c8 : w.cell? ⟨g, 8, none⟩ = some hv
theorem IsRd.kept {w w' : World} {g : Nat} {f0 f1 f2 f3 cv dv ov iv hv : Value} {row : Option Nat} (h : IsRd w g f0 f1 f2 f3 cv dv ov iv hv) (hg : w.grownBy w' row) (hne : some g ≠ row) : IsRd w' g f0 f1 f2 f3 cv dv ov iv hv :=
  ⟨hg.cell h.c0 hne, hg.cell h.c1 hne, hg.cell h.c2 hne, hg.cell h.c3 hne, hg.cell h.c4 hne, hg.cell h.c5 hne, hg.cell h.c6 hne, hg.cell h.c7 hne, hg.cell h.c8 hne⟩
theorem IsRd.below {w w' : World} {g : Nat} {f0 f1 f2 f3 cv dv ov iv hv : Value} (h : IsRd w g f0 f1 f2 f3 cv dv ov iv hv) (hb : Below w.heap.size w w') : IsRd w' g f0 f1 f2 f3 cv dv ov iv hv := h.kept (row := none) (grownBy_below hb) (by simp)
theorem box_rd (w : World) (f0 f1 f2 f3 cv dv ov iv hv : Value) :
    ∃ w1, w.alloc (.cells #[f0, f1, f2, f3, cv, dv, ov, iv, hv] 58) = w1 ∧ Below w.heap.size w w1 ∧ w1.heap.size = w.heap.size + 1 ∧ IsRd w1 w.heap.size f0 f1 f2 f3 cv dv ov iv hv :=
  ⟨_, rfl, (Below.refl _ _).alloc (Nat.le_refl _) _, by simp, ⟨by simp [go_sem], by simp [go_sem], by simp [go_sem], by simp [go_sem], by simp [go_sem], by simp [go_sem], by simp [go_sem], by simp [go_sem], by simp [go_sem]⟩⟩
theorem IsRd.lt {w : World} {g : Nat} {f0 f1 f2 f3 cv dv ov iv hv : Value} (h : IsRd w g f0 f1 f2 f3 cv dv ov iv hv) : g < w.heap.size := World.block_lt_of_cell? w _ h.c0

set_option maxHeartbeats 1600000 in
theorem rdForced_is (gr : Nat) (i1 cap i3 : Int) (cv dv ov iv hv : Value) (L : List Cu) (n k : Nat) (w : World) (hr : IsRd w gr (.int .i64 n) (.int .i64 i1) (.int .i64 cap) (.int .i64 i3) cv dv ov iv hv) (hC : Custs w cv L) (hk : k < L.length) (hok : OkC n (nthC L k)) (hn : n ≤ 20) :
    Calls Tryz.prog 27 #[.pointer (some ⟨gr, 0, none⟩), .int .i64 k] w (CostOut w (forcedC n cap (nthC L k))) := by
  obtain ⟨ca, m, cc, rfl, hm, _, hcell⟩ := hC.open
  obtain ⟨b, o, pv, rfl, _, hcu⟩ := hcell k (by omega)
  have H := Lib.hid (fun (W : World) (h : Below w.heap.size w W) => polForced_is (nthC L k).kd (nthC L k).dm pv (nthC L k).rt (nthC L k).sz (nthC L k).st (nthC L k).ru (nthC L k).hd cap n (nthC L k).ps W hok hn (hcu.pats.below h))
  obtain ⟨pa, pn, pc, rfl⟩ := words_form hcu.pats
  unfold forcedC
  generalize forcedV (nthC L k).kd (nthC L k).ps (nthC L k).rt (nthC L k).st (nthC L k).sz n cap = FV at *
  have x0 := Ext.cell hr.c0
  have x2 := Ext.cell hr.c2
  have x4 := Ext.cell hr.c4
  have y0 := Ext.cell hcu.c0
  have y1 := Ext.cell hcu.c1
  have y2 := Ext.cell hcu.c2
  have y3 := Ext.cell hcu.c3
  have y4 := Ext.cell hcu.c4
  have y5 := Ext.cell hcu.c5
  have y6 := Ext.cell hcu.c6
  have y7 := Ext.cell hcu.c7
  have hi0 : (0 : Int) ≤ (k : Int) := by omega
  have hi1 : (k : Int) < (m : Int) := by omega
  clear hcell hcu hok hC hr hk hm
  generalize nthC L k = X at *
  obtain ⟨kd, dm, ps, rt, sz, st, ru, hd⟩ := X
  simp only at H y0 y1 y3 y4 y5 y6 y7
  go_enter Tryz.func27, Tryz.ntmps27
  go_upto_region 1 with fail
  refine wp_region_ext (by kernel_rfl) (by kernel_rfl) ?_
  repeat (go_big_quiet_step (first
    | (go_at_call 54; exact ext_call _ (H.out _ (Ext.below _)))))
  refine wpQuiet_nil ?_
  intro _ hw'
  obtain ⟨z, rfl⟩ := hw'
  go_wp2_with fail
  go_ret
  exact ⟨rfl, z.below⟩

set_option maxHeartbeats 1600000 in
theorem rdArcs_is (gr : Nat) (i1 cap i3 : Int) (cv dv ov iv hv : Value) (L : List Cu) (H : List Int) (n k : Nat) (w : World) (hr : IsRd w gr (.int .i64 n) (.int .i64 i1) (.int .i64 cap) (.int .i64 i3) cv dv ov iv hv) (hC : Custs w cv L) (hH : Ints w hv H) (hHl : H.length = L.length) (hHb : 0 ≤ nth H k ∧ nth H k ≤ 4294967296) (hk : k < L.length) (hok : OkC n (nthC L k)) (hn : n ≤ 20) :
    Calls Tryz.prog 38 #[.pointer (some ⟨gr, 0, none⟩), .int .i64 k] w (CostOut w (nth H k * forcedC n cap (nthC L k))) := by
  have HF := Lib.hid (fun (W : World) (h : Below w.heap.size w W) => rdForced_is gr i1 cap i3 cv dv ov iv hv L n k W (hr.below h) (hC.below h) hk hok hn)
  have hfb := forcedC_bd cap hn hok
  obtain ⟨ha, m, hc, rfl, hm, _, hcell⟩ := hH.open
  obtain ⟨b, o, rfl, hc0⟩ := hcell k (by omega)
  generalize forcedC n cap (nthC L k) = FV at *
  generalize nth H k = X at *
  have hm1 : 0 ≤ X * FV ∧ X * FV ≤ 4294967296 * 64 := ⟨Int.mul_nonneg hHb.1 hfb.1, Int.mul_le_mul hHb.2 hfb.2 hfb.1 (by omega)⟩
  have hw : IntKind.i64.wrap (X * FV) = X * FV := IntWalk.i64_in _ (by omega)
  have hw' : wrap64 (X * FV) = X * FV := wrap_id (by omega) (by omega)
  have x8 := Ext.cell hr.c8
  have y0 := Ext.cell hc0
  have hi0 : (0 : Int) ≤ (k : Int) := by omega
  have hi1 : (k : Int) < (m : Int) := by omega
  have Hw := Lib.hid hw'
  clear hcell hok hC hr hk hm hc0 hH hw'
  go_enter Tryz.func38, Tryz.ntmps38
  go_upto_region 1 with fail
  refine wp_region_ext (by kernel_rfl) (by kernel_rfl) ?_
  repeat (go_big_quiet_step (first
    | (go_at_call 27; exact ext_call _ (HF.out _ (Ext.below _)))))
  refine wpQuiet_nil ?_
  intro _ hw'
  obtain ⟨z, rfl⟩ := hw'
  go_wp2_with fail
  go_ret
  exact ⟨by first | rfl | (rw [Hw.out]; rfl), z.below⟩

set_option maxHeartbeats 1600000 in
theorem rdMust_is (gr : Nat) (i1 cap i3 : Int) (cv dv ov iv hv : Value) (L : List Cu) (n k : Nat) (w : World) (hr : IsRd w gr (.int .i64 n) (.int .i64 i1) (.int .i64 cap) (.int .i64 i3) cv dv ov iv hv) (hC : Custs w cv L) (hk : k < L.length) (hok : OkC n (nthC L k)) (hn : n ≤ 20) :
    Calls Tryz.prog 30 #[.pointer (some ⟨gr, 0, none⟩), .int .i64 k] w (CostOut w (mustC n cap (nthC L k))) := by
  have HF := Lib.hid (fun (W : World) (h : Below w.heap.size w W) => rdForced_is gr i1 cap i3 cv dv ov iv hv L n k W (hr.below h) (hC.below h) hk hok hn)
  have hfb := forcedC_bd cap hn hok
  have hmb := mustC_bd cap hn hok
  obtain ⟨ca, m, cc, rfl, hm, _, hcell⟩ := hC.open
  obtain ⟨b, o, pv, rfl, _, hcu⟩ := hcell k (by omega)
  obtain ⟨pa, pn, pc, rfl⟩ := words_form hcu.pats
  have hkd := ok_kd hok
  have Hmd : Hid (mustC n cap (nthC L k) = if (nthC L k).kd = 1 then forcedC n cap (nthC L k) * (nthC L k).dm else wantsI (nthC L k).rt (nthC L k).st n) := Lib.hid rfl
  generalize forcedC n cap (nthC L k) = FV at *
  generalize mustC n cap (nthC L k) = MV at *
  generalize nthC L k = X at *
  obtain ⟨kd, dm, ps, rt, sz, st, ru, hd⟩ := X
  simp only at hkd Hmd hcu
  obtain ⟨w1, ew, hb1, hsz1, hbx⟩ := box_cust w kd dm (.slice pa pn pc) rt sz st ru hd
  obtain ⟨y0, y1, y2, y3, y4, y5, y6, y7, _⟩ := hcu
  obtain ⟨c0, c1, c2, c3, c4, c5, c6, c7, c8⟩ := hr
  have hi0 : (0 : Int) ≤ (k : Int) := by omega
  have hi1 : (k : Int) < (m : Int) := by omega
  have Hew := Lib.hid ew
  have d0 := cell_below hb1 c0
  have Hb1 := Lib.hid hb1
  clear hcell hok hC hk hm ew hsz1 hb1
  go_enter Tryz.func30, Tryz.ntmps30
  go_upto_region 2 with fail
  rw [Hew.out]
  have Hbx := Lib.hid hbx
  clear y0 y1 y2 y3 y4 y5 y6 y7 c0 c1 c2 c3 c4 c5 c6 c7 c8 hbx
  obtain ⟨e0, e1, e2, e3, e4, e5, e6, e7⟩ := Hbx.out
  rcases hkd with rfl | ⟨rfl, T⟩
  · have h1 := Hmd.out
    rw [if_pos rfl] at h1
    rw [h1] at hmb
    have Hm1 := Lib.hid h1
    have hw : IntKind.i64.wrap (FV * dm) = FV * dm := IntWalk.i64_in _ (by omega)
    have Hw : Hid (wrap64 (FV * dm) = FV * dm) := Lib.hid (wrap_id (by omega) (by omega))
    have x1 := Ext.cell e1
    clear h1 Hmd
    go_upto_region 3 with fail
    clear e0 e1 e2 e3 e4 e5 e6 e7 d0
    refine wp_region_ext (by kernel_rfl) (by kernel_rfl) ?_
    repeat (go_big_quiet_step (first
      | (go_at_call 27; exact ext_call _ (HF.out _ (bel2 Hb1.out (Ext.below _))))))
    refine wpQuiet_nil ?_
    intro _ hw'
    obtain ⟨z, rfl⟩ := hw'
    go_wp2_with fail
    go_ret
    rw [Hm1.out]
    exact ⟨by first | rfl | (rw [Hw.out]; rfl), bel2 Hb1.out z.below⟩
  · have h1 := Hmd.out
    rw [if_neg (by decide)] at h1
    have Hm1 := Lib.hid h1
    have HW := Lib.hid (fun (W : World) => wants_is 2 dm (.slice pa pn pc) rt sz st ru hd n W T.st0 (by have := T.st1; have := T.sz1; omega) T.rt0 (by have := T.rt1; omega) (by omega))
    have x0 := Ext.cell e0
    have x1 := Ext.cell e1
    have x2 := Ext.cell e2
    have x3 := Ext.cell e3
    have x4 := Ext.cell e4
    have x5 := Ext.cell e5
    have x6 := Ext.cell e6
    have x7 := Ext.cell e7
    have z0 := Ext.cell d0
    clear h1 Hmd T
    go_upto_region 4 with fail
    clear e0 e1 e2 e3 e4 e5 e6 e7 d0
    refine wp_region_ext (by kernel_rfl) (by kernel_rfl) ?_
    repeat (go_big_quiet_step (first
      | (go_at_call 55; exact ext_call _ (HW.out _))))
    refine wpQuiet_nil ?_
    intro _ hw'
    obtain ⟨z, rfl⟩ := hw'
    go_wp2_with fail
    go_ret
    rw [Hm1.out]
    exact ⟨rfl, bel2 Hb1.out z.below⟩

set_option maxHeartbeats 1600000 in
theorem bdPrice_is (i0 i1 i2 i3 : Int) (cv dv ov iv : Value) (L : List Cu) (O I : List Int) (k : Nat) (w : World) (hC : Custs w cv L) (hO : Ints w ov O) (hI : Ints w iv I) (hk : k < L.length) (hOl : O.length = L.length + 1) (hIl : I.length = L.length + 1) (hb : ∀ j, 0 ≤ nth O j ∧ nth O j ≤ 1000000 ∧ 0 ≤ nth I j ∧ nth I j ≤ 1000000) (hL : L.length ≤ 4000) :
    Calls Tryz.prog 10 #[.agg #[.int .i64 i0, .int .i64 i1, .int .i64 i2, .int .i64 i3, cv, dv], .agg #[ov, iv], .int .i64 k] w (CostOut w (priceI2 O I k)) := by
  obtain ⟨ca, m, cc, rfl, hm, _, _⟩ := hC.open
  obtain ⟨oa, on, oc, rfl, hon, _, hoc⟩ := hO.open
  obtain ⟨ia, inn, ic, rfl, hinn, _, hic⟩ := hI.open
  obtain ⟨b1, o1, rfl, f1⟩ := hoc (k + 1) (by omega)
  obtain ⟨b2, o2, rfl, f2⟩ := hic (k + 1) (by omega)
  obtain ⟨w1, ew, hb1, hsz1, hx⟩ := box_inst w (.int .i64 i0) (.int .i64 i1) (.int .i64 i2) (.int .i64 i3) (.slice ca m cc) dv
  obtain ⟨w2, ew2, hb2, hp0, hp1⟩ : ∃ w2, w1.alloc (.cells #[.slice (some ⟨b1, o1, none⟩) on oc, .slice (some ⟨b2, o2, none⟩) inn ic] 29) = w2 ∧ Below w1.heap.size w1 w2 ∧ w2.cell? ⟨w1.heap.size, 0, none⟩ = some (.slice (some ⟨b1, o1, none⟩) on oc) ∧ w2.cell? ⟨w1.heap.size, 1, none⟩ = some (.slice (some ⟨b2, o2, none⟩) inn ic) :=
    ⟨_, rfl, (Below.refl _ _).alloc (Nat.le_refl _) _, by simp [go_sem], by simp [go_sem]⟩
  rw [hsz1] at hp0 hp1
  have hbb := bel2 hb1 hb2
  have f1 := cell_below hbb f1
  have f2 := cell_below hbb f2
  have hx4 := cell_below hb2 hx.c4
  have hbd := hb (k + 1)
  have Hpr : Hid (priceI2 O I k = nth O (k + 1) + nth I (k + 1)) := Lib.hid rfl
  have e1 : (k : Int) + 1 = ((k + 1 : Nat) : Int) := by omega
  generalize nth O (k + 1) = X at *
  generalize nth I (k + 1) = Y at *
  have Hew := Lib.hid ew
  have Hew2 := Lib.hid ew2
  have Hbb := Lib.hid hbb
  have hi0 : (0 : Int) ≤ (k : Int) + 1 := by omega
  have hi1 : (k : Int) + 1 < (on : Int) := by omega
  have hi2 : (k : Int) + 1 < (inn : Int) := by omega
  have q1 : decide ((k : Int) < 0) = false := by simp
  have q2 : decide (m ≤ k) = false := by simp; omega
  have q3 : decide ((m : Int) ≤ (k : Int)) = false := by simp; omega
  have hkt : ((k : Int) + 1).toNat = k + 1 := by omega
  have hw : wrap64 (X + Y) = X + Y := wrap_id (by omega) (by omega)
  have Hw := Lib.hid hw
  clear hC hO hI hk hb ew ew2 hbb hx hoc hic hm hon hinn hOl hIl e1 hw hb1 hb2 hsz1
  go_enter Tryz.func10, Tryz.ntmps10
  go_upto_region 1 with fail
  rw [Hew.out]
  rw [Hew2.out]
  go_upto_region 3 with fail
  go_quiet (fail)
  go_wp2_with fail
  go_ret
  rw [Hpr.out]
  exact ⟨by first | rfl | (rw [Hw.out]; rfl), below_drewN Hbb.out _⟩

set_option maxHeartbeats 3200000 in
theorem rdAlone_is (gr : Nat) (i1 cap i3 : Int) (cv dv ov iv hv : Value) (L : List Cu) (O I : List Int) (n k : Nat) (w : World) (hr : IsRd w gr (.int .i64 n) (.int .i64 i1) (.int .i64 cap) (.int .i64 i3) cv dv ov iv hv) (hC : Custs w cv L) (hO : Ints w ov O) (hI : Ints w iv I) (hk : k < L.length) (hok : OkC n (nthC L k)) (hn : n ≤ 7) (hn1 : 1 ≤ n)
    (hOl : O.length = L.length + 1) (hIl : I.length = L.length + 1) (hb : ∀ j, 0 ≤ nth O j ∧ nth O j ≤ 500 ∧ 0 ≤ nth I j ∧ nth I j ≤ 500) (hL : L.length ≤ 4000) :
    Calls Tryz.prog 35 #[.pointer (some ⟨gr, 0, none⟩), .int .i64 k] w (CostOut w (aloneC n cap (priceI2 O I k) (nthC L k))) := by
  have HP := Lib.hid (fun (W : World) (h : Below w.heap.size w W) => bdPrice_is n i1 cap i3 cv dv ov iv L O I k W (hC.below h) (hO.below h) (hI.below h) hk hOl hIl (fun j => by have := hb j; omega) hL)
  have hpb : 0 ≤ priceI2 O I k ∧ priceI2 O I k ≤ 1000 := by have := hb (k + 1); unfold priceI2; omega
  have hPo : PriceOk (List.replicate n (priceI2 O I k)) := fun x hx => by rw [List.eq_of_mem_replicate hx]; exact hpb
  have HPo := Lib.hid hPo
  obtain ⟨ca, m, cc, rfl, hm, _, hcell⟩ := hC.open
  obtain ⟨b, o, pv, rfl, _, hcu⟩ := hcell k (by omega)
  obtain ⟨pa, pn, pc, rfl⟩ := words_form hcu.pats
  obtain ⟨oa, on, oc, rfl, _⟩ := hO.open
  obtain ⟨ia, inn, ic, rfl, _⟩ := hI.open
  have HB := Lib.hid (fun (W : World) (lv : Value) (h : Below w.heap.size w W) (hl : Ints W lv (List.replicate n (priceI2 O I k))) => bound_is (nthC L k).kd (nthC L k).dm (.slice pa pn pc) lv (nthC L k).rt (nthC L k).sz (nthC L k).st (nthC L k).ru (nthC L k).hd cap n (nthC L k).ps (List.replicate n (priceI2 O I k)) W hok (by omega) (hcu.pats.below h) hl hPo)
  have HR := Lib.hid (fun (W : World) (xv : Value) (h : Ints W xv [priceI2 O I k]) => repeat_is xv (priceI2 O I k) n W h hn1 hn)
  unfold aloneC
  generalize priceI2 O I k = p at *
  generalize boundI (nthC L k).kd (nthC L k).dm (nthC L k).ps (nthC L k).rt (nthC L k).sz (nthC L k).st (nthC L k).ru (nthC L k).hd cap (List.replicate n p) n = BV at *
  generalize List.replicate n p = PL at *
  generalize nthC L k = X at *
  obtain ⟨kd, dm, ps, rt, sz, st, ru, hd⟩ := X
  simp only at HB hcu
  obtain ⟨c0, c1, c2, c3, c4, c5, c6, c7, c8⟩ := hr
  have Hcu := Lib.hid hcu
  have hi0 : (0 : Int) ≤ (k : Int) := by omega
  have hi1 : (k : Int) < (m : Int) := by omega
  have b0 := Below.refl w.heap.size w
  obtain ⟨da, hda⟩ : ∃ da, da = dv := ⟨_, rfl⟩
  clear hcell hok hC hO hI hk hm hcu hb hOl hIl hPo hda
  go_enter Tryz.func35, Tryz.ntmps35
  go_upto_region 1 with fail
  go_cut [5] (fun s5 wx => ∃ lv, lv = s5 ∧ Ints wx lv PL ∧ Below w.heap.size w wx)
  case first =>
    first
      | (go_region_held3 (fun w' => w'.cell? ⟨gr, 0, none⟩ = some (.int .i64 n) ∧ w'.cell? ⟨gr, 1, none⟩ = some (.int .i64 i1) ∧ w'.cell? ⟨gr, 2, none⟩ = some (.int .i64 cap) ∧ w'.cell? ⟨gr, 3, none⟩ = some (.int .i64 i3) ∧ w'.cell? ⟨gr, 4, none⟩ = some (.slice (some ⟨b, o, none⟩) m cc) ∧ w'.cell? ⟨gr, 5, none⟩ = some dv ∧ w'.cell? ⟨gr, 6, none⟩ = some (.slice oa on oc) ∧ w'.cell? ⟨gr, 7, none⟩ = some (.slice ia inn ic))
          (first | go_keep | exact ⟨cell_below b4 c0, cell_below b4 c1, cell_below b4 c2, cell_below b4 c3, cell_below b4 c4, cell_below b4 c5, cell_below b4 c6, cell_below b4 c7⟩ | exact ⟨cell_below b5 c0, cell_below b5 c1, cell_below b5 c2, cell_below b5 c3, cell_below b5 c4, cell_below b5 c5, cell_below b5 c6, cell_below b5 c7⟩ | exact ⟨cell_below (bel2 b4 (belAlloc _ _)) c0, cell_below (bel2 b4 (belAlloc _ _)) c1, cell_below (bel2 b4 (belAlloc _ _)) c2, cell_below (bel2 b4 (belAlloc _ _)) c3, cell_below (bel2 b4 (belAlloc _ _)) c4, cell_below (bel2 b4 (belAlloc _ _)) c5, cell_below (bel2 b4 (belAlloc _ _)) c6, cell_below (bel2 b4 (belAlloc _ _)) c7⟩)
          (first
            | (go_at_call 10; refine (HP.out _ ?_).mono ?_; (first | exact b0 | exact belDrew _); rintro e w4 ⟨rfl, hb4⟩; (first | have b4 := bel2 b0 hb4 | have b4 := bel2 (belDrew w) hb4))
            | (go_at_call 58; refine (HR.out _ _ (ints_new _ [p] (by simp))).mono ?_; rintro e w5 ⟨lv, rfl, hown, hb5⟩; have hq := hown.ints; have b5 := bel2 (bel2 b4 (belAlloc _ _)) hb5)))
      | fail
    all_goals
      go_wp2_with fail
      go_meet
      first
        | exact ⟨_, rfl, hq, b5⟩
        | exact ⟨_, rfl, hq.below (belDrew _), b5.drew⟩
  case rest =>
  obtain ⟨lv, rfl, hl, hbc⟩ := hcut
  obtain ⟨w5, rfl⟩ : ∃ w5 : World, w5 = wc := ⟨_, rfl⟩
  have HB2 := Lib.hid (fun (W : World) (h : Below w5.heap.size w5 W) => HB.out W lv (bel2 hbc h) (hl.below h))
  have Hbc := Lib.hid hbc
  obtain ⟨y0, y1, y2, y3, y4, y5, y6, y7, _⟩ := Hcu.out.below hbc
  have z0 := Ext.cell (cell_below hbc c0)
  have z2 := Ext.cell (cell_below hbc c2)
  have z4 := Ext.cell (cell_below hbc c4)
  have x0 := Ext.cell y0
  have x1 := Ext.cell y1
  have x2 := Ext.cell y2
  have x3 := Ext.cell y3
  have x4 := Ext.cell y4
  have x5 := Ext.cell y5
  have x6 := Ext.cell y6
  have x7 := Ext.cell y7
  clear c0 c1 c2 c3 c4 c5 c6 c7 c8 y0 y1 y2 y3 y4 y5 y6 y7 hl hbc b0
  go_upto_region 2 with fail
  refine wp_region_ext (by kernel_rfl) (by kernel_rfl) ?_
  repeat (go_big_quiet_step (first
    | (go_at_call 59; exact ext_call _ (HB2.out _ (Ext.below _)))))
  refine wpQuiet_nil ?_
  intro _ hw'
  obtain ⟨z, rfl⟩ := hw'
  go_wp2_with fail
  go_ret
  exact ⟨rfl, bel2 Hbc.out z.below⟩
end

section
open Go.RowKit
set_option linter.unusedVariables false
set_option maxRecDepth 100000
attribute [local go_sem ↓] Go.wp_at_zero Go.wp_at_succ

set_option maxHeartbeats 1600000 in
theorem sumMust_is (i0 i1 i2 i3 : Int) (cv dv : Value) (L : List Cu) (gr : Nat) (f : Nat → Int) (w : World) (hC : Custs w cv L) (hL : L.length ≤ 4000)
    (hf : ∀ (W : World) (k : Nat), Below w.heap.size w W → k < L.length → Calls Tryz.prog 30 #[.pointer (some ⟨gr, 0, none⟩), .int .i64 k] W (CostOut W (f k))) (hb : ∀ k, k < L.length → 0 ≤ f k ∧ f k ≤ 1000000000000) :
    Calls Tryz.prog 29 #[.agg #[.int .i64 i0, .int .i64 i1, .int .i64 i2, .int .i64 i3, cv, dv], .func (.func 30) #[.pointer (some ⟨gr, 0, none⟩)] #[]] w (CostOut w (sumUpto f L.length)) := by
  obtain ⟨ca, n, cc, rfl, hn, _, _⟩ := hC.open
  obtain ⟨w1, ew, hb1, hsz1, hx⟩ := box_inst w (.int .i64 i0) (.int .i64 i1) (.int .i64 i2) (.int .i64 i3) (.slice ca n cc) dv
  have Hf := Lib.hid hf
  have Hb := Lib.hid hb
  have Hew := Lib.hid ew
  have Hb1 := Lib.hid hb1
  rw [hn] at Hf Hb ⊢
  have hn4 : n ≤ 4000 := by omega
  obtain ⟨c0, c1, c2, c3, c4, c5⟩ := hx
  clear hf hb hC ew hsz1 hn hb1 hL
  go_enter Tryz.func29, Tryz.ntmps29
  go_upto_region 1 with fail
  rw [Hew.out]
  go_wp2_with fail
  go_loopw [5, 6, 10] (fun s s6 i wr => ∃ (k : Nat) (S : Int) (y : Value), k ≤ n ∧ y = s6 ∧ i = .int .i64 k ∧ s = .int .i64 S ∧ S = sumUpto f k ∧ Below w.heap.size w wr) (fun _ _ i _ => n - (intOf i).toNat)
  case atStart => exact ⟨0, 0, _, Nat.zero_le _, rfl, rfl, rfl, rfl, Hb1.out⟩
  case round =>
    obtain ⟨k, S, y, hk, rfl, rfl, rfl, hS, hbr⟩ := hrel
    obtain ⟨wo, rfl⟩ : ∃ wo : World, wo = wr := ⟨_, rfl⟩
    have Hbr := Lib.hid hbr
    by_cases hlt : k < n
    · have hi1 : (k : Int) < (n : Int) := by omega
      have hsb := sumUpto_bd f 1000000000000 k (fun i hi => Hb.out i (by omega))
      have hfb := Hb.out k hlt
      have Hc := Lib.hid (Hf.out wo k hbr hlt)
      have hst : sumUpto f (k + 1) = S + f k := by rw [sumUpto, ← hS]
      rw [← hS] at hsb
      generalize f k = Y at *
      have hfits : fitsI (S + Y) = true := fitsI_iff.2 (by omega)
      have hsat := fun (W : World) => sat_is S Y W (fitsI_iff.2 (by omega)) (fitsI_iff.2 (by omega))
      rw [sat_fit hfits] at hsat
      have Hsat := Lib.hid hsat
      have Hst := Lib.hid hst
      clear hbr hS hst hfits hsat
      go_wp2_with fail
      refine Hc.out.mono ?_
      rintro e w2 ⟨rfl, hb2⟩
      have Hb2 := Lib.hid (Hbr.out.trans (hb2.mono Hbr.out.size))
      clear hb2
      go_wp2_with fail
      refine (Hsat.out _).mono ?_
      rintro e w' ⟨rfl, rfl⟩
      go_wp2_with fail
      go_roundw
      case rel => exact ⟨k + 1, _, _, by omega, rfl, by go_num, rfl, Hst.out.symm, Hb2.out⟩
      case measure => simp [intOf]; omega
    · have hkn : k = n := by omega
      subst hkn
      have HS := Lib.hid hS
      clear hS
      go_wp2_with fail
      go_ret
      rw [← HS.out]
      exact ⟨rfl, Hbr.out⟩

set_option maxHeartbeats 1600000 in
theorem sumArcs_is (i0 i1 i2 i3 : Int) (cv dv : Value) (L : List Cu) (gr : Nat) (f : Nat → Int) (w : World) (hC : Custs w cv L) (hL : L.length ≤ 4000)
    (hf : ∀ (W : World) (k : Nat), Below w.heap.size w W → k < L.length → Calls Tryz.prog 38 #[.pointer (some ⟨gr, 0, none⟩), .int .i64 k] W (CostOut W (f k))) (hb : ∀ k, k < L.length → 0 ≤ f k ∧ f k ≤ 1000000000000) :
    Calls Tryz.prog 29 #[.agg #[.int .i64 i0, .int .i64 i1, .int .i64 i2, .int .i64 i3, cv, dv], .func (.func 38) #[.pointer (some ⟨gr, 0, none⟩)] #[]] w (CostOut w (sumUpto f L.length)) := by
  obtain ⟨ca, n, cc, rfl, hn, _, _⟩ := hC.open
  obtain ⟨w1, ew, hb1, hsz1, hx⟩ := box_inst w (.int .i64 i0) (.int .i64 i1) (.int .i64 i2) (.int .i64 i3) (.slice ca n cc) dv
  have Hf := Lib.hid hf
  have Hb := Lib.hid hb
  have Hew := Lib.hid ew
  have Hb1 := Lib.hid hb1
  rw [hn] at Hf Hb ⊢
  have hn4 : n ≤ 4000 := by omega
  obtain ⟨c0, c1, c2, c3, c4, c5⟩ := hx
  clear hf hb hC ew hsz1 hn hb1 hL
  go_enter Tryz.func29, Tryz.ntmps29
  go_upto_region 1 with fail
  rw [Hew.out]
  go_wp2_with fail
  go_loopw [5, 6, 10] (fun s s6 i wr => ∃ (k : Nat) (S : Int) (y : Value), k ≤ n ∧ y = s6 ∧ i = .int .i64 k ∧ s = .int .i64 S ∧ S = sumUpto f k ∧ Below w.heap.size w wr) (fun _ _ i _ => n - (intOf i).toNat)
  case atStart => exact ⟨0, 0, _, Nat.zero_le _, rfl, rfl, rfl, rfl, Hb1.out⟩
  case round =>
    obtain ⟨k, S, y, hk, rfl, rfl, rfl, hS, hbr⟩ := hrel
    obtain ⟨wo, rfl⟩ : ∃ wo : World, wo = wr := ⟨_, rfl⟩
    have Hbr := Lib.hid hbr
    by_cases hlt : k < n
    · have hi1 : (k : Int) < (n : Int) := by omega
      have hsb := sumUpto_bd f 1000000000000 k (fun i hi => Hb.out i (by omega))
      have hfb := Hb.out k hlt
      have Hc := Lib.hid (Hf.out wo k hbr hlt)
      have hst : sumUpto f (k + 1) = S + f k := by rw [sumUpto, ← hS]
      rw [← hS] at hsb
      generalize f k = Y at *
      have hfits : fitsI (S + Y) = true := fitsI_iff.2 (by omega)
      have hsat := fun (W : World) => sat_is S Y W (fitsI_iff.2 (by omega)) (fitsI_iff.2 (by omega))
      rw [sat_fit hfits] at hsat
      have Hsat := Lib.hid hsat
      have Hst := Lib.hid hst
      clear hbr hS hst hfits hsat
      go_wp2_with fail
      refine Hc.out.mono ?_
      rintro e w2 ⟨rfl, hb2⟩
      have Hb2 := Lib.hid (Hbr.out.trans (hb2.mono Hbr.out.size))
      clear hb2
      go_wp2_with fail
      refine (Hsat.out _).mono ?_
      rintro e w' ⟨rfl, rfl⟩
      go_wp2_with fail
      go_roundw
      case rel => exact ⟨k + 1, _, _, by omega, rfl, by go_num, rfl, Hst.out.symm, Hb2.out⟩
      case measure => simp [intOf]; omega
    · have hkn : k = n := by omega
      subst hkn
      have HS := Lib.hid hS
      clear hS
      go_wp2_with fail
      go_ret
      rw [← HS.out]
      exact ⟨rfl, Hbr.out⟩

set_option maxHeartbeats 1600000 in
theorem sumAlone_is (i0 i1 i2 i3 : Int) (cv dv : Value) (L : List Cu) (gr : Nat) (f : Nat → Int) (w : World) (hC : Custs w cv L) (hL : L.length ≤ 4000)
    (hf : ∀ (W : World) (k : Nat), Below w.heap.size w W → k < L.length → Calls Tryz.prog 35 #[.pointer (some ⟨gr, 0, none⟩), .int .i64 k] W (CostOut W (f k))) (hb : ∀ k, k < L.length → 0 ≤ f k ∧ f k ≤ 1000000000000) :
    Calls Tryz.prog 29 #[.agg #[.int .i64 i0, .int .i64 i1, .int .i64 i2, .int .i64 i3, cv, dv], .func (.func 35) #[.pointer (some ⟨gr, 0, none⟩)] #[]] w (CostOut w (sumUpto f L.length)) := by
  obtain ⟨ca, n, cc, rfl, hn, _, _⟩ := hC.open
  obtain ⟨w1, ew, hb1, hsz1, hx⟩ := box_inst w (.int .i64 i0) (.int .i64 i1) (.int .i64 i2) (.int .i64 i3) (.slice ca n cc) dv
  have Hf := Lib.hid hf
  have Hb := Lib.hid hb
  have Hew := Lib.hid ew
  have Hb1 := Lib.hid hb1
  rw [hn] at Hf Hb ⊢
  have hn4 : n ≤ 4000 := by omega
  obtain ⟨c0, c1, c2, c3, c4, c5⟩ := hx
  clear hf hb hC ew hsz1 hn hb1 hL
  go_enter Tryz.func29, Tryz.ntmps29
  go_upto_region 1 with fail
  rw [Hew.out]
  go_wp2_with fail
  go_loopw [5, 6, 10] (fun s s6 i wr => ∃ (k : Nat) (S : Int) (y : Value), k ≤ n ∧ y = s6 ∧ i = .int .i64 k ∧ s = .int .i64 S ∧ S = sumUpto f k ∧ Below w.heap.size w wr) (fun _ _ i _ => n - (intOf i).toNat)
  case atStart => exact ⟨0, 0, _, Nat.zero_le _, rfl, rfl, rfl, rfl, Hb1.out⟩
  case round =>
    obtain ⟨k, S, y, hk, rfl, rfl, rfl, hS, hbr⟩ := hrel
    obtain ⟨wo, rfl⟩ : ∃ wo : World, wo = wr := ⟨_, rfl⟩
    have Hbr := Lib.hid hbr
    by_cases hlt : k < n
    · have hi1 : (k : Int) < (n : Int) := by omega
      have hsb := sumUpto_bd f 1000000000000 k (fun i hi => Hb.out i (by omega))
      have hfb := Hb.out k hlt
      have Hc := Lib.hid (Hf.out wo k hbr hlt)
      have hst : sumUpto f (k + 1) = S + f k := by rw [sumUpto, ← hS]
      rw [← hS] at hsb
      generalize f k = Y at *
      have hfits : fitsI (S + Y) = true := fitsI_iff.2 (by omega)
      have hsat := fun (W : World) => sat_is S Y W (fitsI_iff.2 (by omega)) (fitsI_iff.2 (by omega))
      rw [sat_fit hfits] at hsat
      have Hsat := Lib.hid hsat
      have Hst := Lib.hid hst
      clear hbr hS hst hfits hsat
      go_wp2_with fail
      refine Hc.out.mono ?_
      rintro e w2 ⟨rfl, hb2⟩
      have Hb2 := Lib.hid (Hbr.out.trans (hb2.mono Hbr.out.size))
      clear hb2
      go_wp2_with fail
      refine (Hsat.out _).mono ?_
      rintro e w' ⟨rfl, rfl⟩
      go_wp2_with fail
      go_roundw
      case rel => exact ⟨k + 1, _, _, by omega, rfl, by go_num, rfl, Hst.out.symm, Hb2.out⟩
      case measure => simp [intOf]; omega
    · have hkn : k = n := by omega
      subst hkn
      have HS := Lib.hid hS
      clear hS
      go_wp2_with fail
      go_ret
      rw [← HS.out]
      exact ⟨rfl, Hbr.out⟩

theorem info_rd0 : True := trivial

/-- An instance and its reader, as the walk lays them. -/
structure OkI (n : Nat) (L : List Cu) : Prop where
  len : L.length ≤ 100
  cus : ∀ C ∈ L, OkC n C
  n1 : 1 ≤ n
  n7 : n ≤ 7

set_option maxHeartbeats 3200000 in
theorem bdLeast_is (n : Nat) (i1 cap i3 : Int) (cv dv : Value) (L : List Cu) (w : World) (hC : Custs w cv L) (hI : OkI n L) (hcap : 0 ≤ cap ∧ cap ≤ 4294967296) :
    Calls Tryz.prog 11 #[.agg #[.int .i64 n, .int .i64 i1, .int .i64 cap, .int .i64 i3, cv, dv]] w (CostOut w (leastT n cap L)) := by
  have hn20 : n ≤ 20 := by have := hI.n7; omega
  have hL4 : L.length ≤ 4000 := by have := hI.len; omega
  obtain ⟨w1, ew, hb1, hsz1, hx⟩ := box_inst w (.int .i64 n) (.int .i64 i1) (.int .i64 cap) (.int .i64 i3) cv dv
  obtain ⟨w2, ew2, hb2, hsz2, hr⟩ := box_rd w1 (.int .i64 n) (.int .i64 i1) (.int .i64 cap) (.int .i64 i3) cv dv (.slice none 0 0) (.slice none 0 0) (.slice none 0 0)
  have hbb := bel2 hb1 hb2
  have hx2 := hx.below hb2
  have HF := Lib.hid (fun (W : World) (k : Nat) (h : Below w2.heap.size w2 W) (hk : k < L.length) => rdForced_is w1.heap.size i1 cap i3 cv dv _ _ _ L n k W (hr.below h) (hC.below (bel2 hbb h)) hk (hI.cus _ (nthC_mem hk)) hn20)
  have HM := Lib.hid (fun (W : World) (h : Below w2.heap.size w2 W) => sumMust_is n i1 cap i3 cv dv L w1.heap.size (fun k => mustC n cap (nthC L k)) W (hC.below (bel2 hbb h)) hL4 (fun W' k h' hk => rdMust_is w1.heap.size i1 cap i3 cv dv _ _ _ L n k W' (hr.below (bel2 h h')) (hC.below (bel2 hbb (bel2 h h'))) hk (hI.cus _ (nthC_mem hk)) hn20) (fun k hk => by have := mustC_bd cap hn20 (hI.cus _ (nthC_mem hk)); omega))
  have hmb := sumUpto_bd (fun k => mustC n cap (nthC L k)) 2000 L.length (fun k hk => mustC_bd cap hn20 (hI.cus _ (nthC_mem hk)))
  have Hfb := Lib.hid (fun (k : Nat) (hk : k < L.length) => forcedC_bd cap hn20 (hI.cus _ (nthC_mem hk)))
  have hlen := hI.len
  obtain ⟨ca, N, cc, rfl, hN, _, _⟩ := hC.open
  have Hres : Hid (leastT n cap L = if 0 < cap then max (mostUpto (fun i => forcedC n cap (nthC L i)) N) (ceilI (sumUpto (fun i => mustC n cap (nthC L i)) N) cap) else mostUpto (fun i => forcedC n cap (nthC L i)) N) := Lib.hid (by rw [← hN]; rfl)
  rw [hN] at HF HM hmb Hfb hlen
  generalize sumUpto (fun k => mustC n cap (nthC L k)) N = S at *
  generalize hfF : (fun i => forcedC n cap (nthC L i)) = F at *
  have hF : ∀ k, forcedC n cap (nthC L k) = F k := fun k => by rw [← hfF]
  have HF2 : Hid (∀ (W : World) (k : Nat), Below w2.heap.size w2 W → k < N → Calls Tryz.prog 27 #[.pointer (some ⟨w1.heap.size, 0, none⟩), .int .i64 k] W (CostOut W (F k))) := Lib.hid (fun W k h hk => by have := HF.out W k h hk; rw [hF] at this; exact this)
  have Hfb2 : Hid (∀ k, k < N → 0 ≤ F k ∧ F k ≤ 64) := Lib.hid (fun k hk => by have := Hfb.out k hk; rw [hF] at this; exact this)
  have Hew := Lib.hid ew
  have Hew2 := Lib.hid ew2
  have Hbb := Lib.hid hbb
  have hszw : w.heap.size ≤ w2.heap.size := hbb.size
  have Hx2 := Lib.hid hx2
  obtain ⟨da, hda⟩ : ∃ da, da = dv := ⟨_, rfl⟩
  obtain ⟨c0, c1, c2, c3, c4, c5⟩ := hx
  clear ew ew2 hsz1 hsz2 hr hx2 hC HF Hfb hF hfF hb1 hb2 hbb hI hda
  go_enter Tryz.func11, Tryz.ntmps11
  go_upto_region 1 with fail
  rw [Hew.out]
  go_upto_region 2 with fail
  rw [Hew2.out]
  clear c0 c1 c2 c3 c4 c5
  obtain ⟨c0, c1, c2, c3, c4, c5⟩ := Hx2.out
  generalize w1.heap.size = g2 at *
  go_wp2_with fail
  go_loopw [4, 5, 14] (fun s s5 i wr => ∃ (k : Nat) (M : Int) (y : Value), k ≤ N ∧ y = s5 ∧ i = .int .i64 k ∧ s = .int .i64 M ∧ M = mostUpto F k ∧ Below w2.heap.size w2 wr) (fun _ _ i _ => N - (intOf i).toNat)
  case atStart => exact ⟨0, 0, _, Nat.zero_le _, rfl, rfl, rfl, rfl, Below.refl _ _⟩
  case round =>
    obtain ⟨k, M, y, hk, rfl, rfl, rfl, hM, hbr⟩ := hrel
    obtain ⟨wo, rfl⟩ : ∃ wo : World, wo = wr := ⟨_, rfl⟩
    have Hbr := Lib.hid hbr
    by_cases hlt : k < N
    · have hi1 : (k : Int) < (N : Int) := by omega
      have Hc := Lib.hid (HF2.out wo k hbr hlt)
      have hst : mostUpto F (k + 1) = max M (F k) := by rw [mostUpto, ← hM]
      generalize F k = Y at *
      have hm1 : (M < Y ∧ decide (M < Y) = true ∧ max M Y = Y) ∨ (¬ M < Y ∧ decide (M < Y) = false ∧ max M Y = M) := by
        by_cases h : M < Y
        · exact .inl ⟨h, decide_eq_true h, by omega⟩
        · exact .inr ⟨h, decide_eq_false h, by omega⟩
      clear hbr hM
      rcases hm1 with ⟨q1, q2, q3⟩ | ⟨q1, q2, q3⟩
      all_goals
        rw [q3] at hst
        have Hst := Lib.hid hst
        clear hst q3
        go_wp2_with fail
        refine Hc.out.mono ?_
        rintro e w5 ⟨rfl, hb5⟩
        have Hb5 := Lib.hid (Hbr.out.trans (hb5.mono Hbr.out.size))
        clear hb5
        go_wp2_with fail
        go_roundw
        case rel => exact ⟨k + 1, _, _, by omega, rfl, by go_num, rfl, Hst.out.symm, Hb5.out⟩
        case measure => simp [intOf]; omega
    · have hkN : k = N := by omega
      subst hkN
      have hMb := mostUpto_bd F 64 (by decide) k (fun i hi => (Hfb2.out i hi).2)
      rw [← hM] at Hres hMb
      have hBw := Hbb.out.trans (hbr.mono hszw)
      have HBw := Lib.hid hBw
      have hsz5 : w.heap.size ≤ wo.heap.size := hBw.size
      by_cases hc0 : 0 < cap
      · have hr := Hres.out
        rw [if_pos hc0] at hr
        have hq1 : decide (0 < cap) = true := decide_eq_true hc0
        have HM1 := Lib.hid (fun (W : World) (h : Below wo.heap.size wo W) => HM.out W (bel2 hbr h))
        have hce : ceilE S cap = (ceilI S cap, true) := by
          by_cases h0 : S = 0
          · subst h0
            unfold ceilI
            have h3 : (0 + cap - 1) / cap = 0 := Int.ediv_eq_zero_of_lt (by omega) (by omega)
            rw [h3]
            have hn : noQuo 0 cap = false := by
              unfold noQuo
              rw [beq_eq_false_iff_ne.2 (show cap ≠ 0 by omega)]
              rfl
            unfold ceilE
            rw [hn]
            simp
          · exact ceilE_pos S cap (by omega) hc0
        have HCe := Lib.hid (fun (W : World) => ceil_is S cap W (fitsI_iff.2 (by omega)))
        rw [hce] at HCe
        simp only at HCe
        generalize ceilI S cap = CE at *
        have hx3 := Hx2.out.below hbr
        have x0 := Ext.cell hx3.c0
        have x1 := Ext.cell hx3.c1
        have x2 := Ext.cell hx3.c2
        have x3 := Ext.cell hx3.c3
        have x4 := Ext.cell hx3.c4
        have x5 := Ext.cell hx3.c5
        have d2 := hx3.c2
        have hm1 : (M < CE ∧ decide (M < CE) = true ∧ max M CE = CE) ∨ (¬ M < CE ∧ decide (M < CE) = false ∧ max M CE = M) := by
          by_cases h : M < CE
          · exact .inl ⟨h, decide_eq_true h, by omega⟩
          · exact .inr ⟨h, decide_eq_false h, by omega⟩
        clear hx3 hbr hM hce hBw
        go_upto_region 9 with fail
        go_cut [6] (fun s6 wx => s6 = .int .i64 CE ∧ Below wo.heap.size wo wx)
        case first =>
          clear c0 c1 c2 c3 c4 c5 d2
          refine wp_region_ext (by kernel_rfl) (by kernel_rfl) ?_
          repeat (go_big_quiet_step (first
            | (go_at_call 29; exact ext_call _ (HM1.out _ (Ext.below _)))
            | (go_at_call 28; exact ext_same _ (HCe.out _))))
          refine wpQuiet_nil ?_
          intro _ hw'
          obtain ⟨z, rfl⟩ := hw'
          go_wp2_with fail
          go_meet
          exact ⟨rfl, z.below⟩
        case rest =>
          obtain ⟨rfl, hbc⟩ := hcut
          obtain ⟨w6, rfl⟩ : ∃ w6 : World, w6 = wc := ⟨_, rfl⟩
          have Hbc := Lib.hid (HBw.out.trans (hbc.mono hsz5))
          clear hbc x0 x1 x2 x3 x4 x5
          rcases hm1 with ⟨q1, q2, q3⟩ | ⟨q1, q2, q3⟩
          all_goals
            rw [q3] at hr
            have Hr := Lib.hid hr
            clear hr q3 Hres
            go_wp2_with fail
            go_ret
            rw [Hr.out]
            exact ⟨rfl, Hbc.out⟩
      · have hr := Hres.out
        rw [if_neg hc0] at hr
        have Hr := Lib.hid hr
        have hq1 : decide (0 < cap) = false := decide_eq_false hc0
        have d2 := (Hx2.out.below hbr).c2
        clear hr Hres hbr hM hBw
        go_wp2_with fail
        go_ret
        rw [Hr.out]
        exact ⟨rfl, HBw.out⟩
end

section
open Go.RowKit
set_option linter.unusedVariables false
set_option maxRecDepth 100000

theorem priceV_bdP {P : List Int} (hP : PriceOk P) (V : List (Int × Int)) : 0 ≤ priceV P V ∧ priceV P V ≤ 1000 * V.length := by
  induction V with
  | nil => simp [priceV]
  | cons p V ih =>
    have h1 := hP.at_ p.1
    have e1 : priceV P (p :: V) = priceAt P p.1 + priceV P V := by simp [priceV]
    rw [e1, List.length_cons, Int.natCast_succ, Int.mul_add, Int.mul_one]
    omega
theorem SuitQ.held_bd {st rt sz ru hd cap : Int} {q : List Int} {n : Nat} (h : SuitQ st rt sz ru cap q n) (T : TankOk st rt sz ru hd) {k : Nat} (hk : k ≤ n) : 0 ≤ (nightL st rt q k).sum ∧ (nightL st rt q k).sum ≤ 100 * k := by
  induction k with
  | zero => simp [nightL]
  | succ k ih =>
    have h1 := h.morn0 T (k := k + 1) hk
    have h2 := ih (by omega)
    have h3 := okDay_bd (h.day k (by omega))
    have h4 := morn_succ st rt q k (by rw [h.len]; omega)
    have h5 := T.sz1
    have h6 := T.rt0
    have e2 : ([morn st rt q (k + 1)] : List Int).sum = morn st rt q (k + 1) := by simp
    rw [nightL_succ, List.sum_append, e2, Int.natCast_succ, Int.mul_add, Int.mul_one]
    omega
theorem costV_bd {kd dm : Int} {ps : List Nat} {rt sz st ru hd cap : Int} {V : List (Int × Int)} {n : Nat} {P : List Int} (hn : n ≤ 20) (hP : PriceOk P) (hC : CuOk n kd dm ps rt sz st ru hd) (h : suitsV kd dm ps rt sz st ru cap V n = true) : 0 ≤ costV kd st rt sz hd P V n ∧ costV kd st rt sz hd P V n ≤ 264000 := by
  have hl := (suits_good hn hC h).1
  have hp := priceV_bdP hP V
  rcases hC with ⟨rfl, _⟩ | ⟨rfl, T⟩
  · unfold costV
    rw [if_pos rfl]; omega
  · obtain ⟨hq, hv⟩ := suit_of h
    generalize bringsOf V n = q at *
    subst hv
    rw [hq.cost_eq P hn]
    have hb := hq.held_bd T (Nat.le_refl n)
    have h0 := T.hd0
    have h1 := T.hd1
    have m1 := Int.mul_nonneg h0 hb.1
    have m2 : hd * (nightL st rt q n).sum ≤ 100 * 2000 := Int.mul_le_mul h1 (by omega) hb.1 (by omega)
    omega
theorem boundI_bd {kd dm : Int} {ps : List Nat} {rt sz st ru hd cap : Int} {n : Nat} {P : List Int} (hn : n ≤ 20) (hP : PriceOk P) (hC : CuOk n kd dm ps rt sz st ru hd) : 0 ≤ boundI kd dm ps rt sz st ru hd cap P n ∧ boundI kd dm ps rt sz st ru hd cap P n ≤ 1064000 := by
  have hfl : 0 ≤ floorI kd ps rt sz st hd cap P n ∧ floorI kd ps rt sz st hd cap P n ≤ 1064000 := by
    rw [floor_eq cap P hC]
    have h1 := forcedV_bd cap hn hC
    have h2 := minTo_bd hP n
    have h3 : 0 ≤ keepsV kd st rt hd n ∧ keepsV kd st rt hd n ≤ 1000000 := by
      unfold keepsV
      rcases hC with ⟨h, _⟩ | ⟨h, T⟩
      · rw [if_pos h]; omega
      · rw [if_neg (by omega)]; exact keepsI_bd T (by omega)
    have m1 := Int.mul_nonneg h1.1 h2.1
    have m2 := Int.mul_le_mul h1.2 h2.2 h2.1 (by omega)
    omega
  obtain ⟨V, b, h⟩ := found_ex cap P hn hC
  by_cases hru : ru = 2
  · rcases hC with ⟨_, _, _, _, _, _, h0⟩ | ⟨hkd, T⟩
    · omega
    · subst hru
      rw [← bound_two hkd]
      exact hfl
  · have hb := found_bound hn h hru
    cases b with
    | true =>
      rw [← hb.1 rfl]
      have := costV_bd hn hP hC (found_suits hn hC h rfl)
      omega
    | false => rw [← hb.2 rfl]; exact hfl
theorem aloneC_bd {n : Nat} (cap : Int) (hn : n ≤ 20) {p : Int} (hp : 0 ≤ p ∧ p ≤ 1000) {C : Cu} (h : OkC n C) : 0 ≤ aloneC n cap p C ∧ aloneC n cap p C ≤ 1064000 :=
  boundI_bd hn (fun x hx => by rw [List.eq_of_mem_replicate hx]; exact hp) h
theorem comeUpto_bd {D : List (List Int)} (hD : ArcBd D) (b k : Nat) : 0 ≤ comeUpto D b k ∧ comeUpto D b k ≤ 60 := by
  induction k with
  | zero => exact hD 0 b
  | succ k ih =>
    have := hD k b
    rw [comeUpto]
    split
    · exact ih
    · omega
theorem cheapI_bd {D : List (List Int)} (hD : ArcBd D) (N i : Nat) : 0 ≤ cheapI D N i ∧ cheapI D N i ≤ 60 := comeUpto_bd hD _ _
end

section
open Go.RowKit
set_option linter.unusedVariables false
set_option maxRecDepth 100000
attribute [local go_sem ↓] Go.wp_at_zero Go.wp_at_succ

theorem IsRd.store {w : World} {g : Nat} {f0 f1 f2 f3 cv dv ov iv hv : Value} (h : IsRd w g f0 f1 f2 f3 cv dv ov iv hv) (u : Value) : IsRd (w.setCell ⟨g, 8, none⟩ u) g f0 f1 f2 f3 cv dv ov iv u :=
  ⟨set_far h.c0 (by decide), set_far h.c1 (by decide), set_far h.c2 (by decide), set_far h.c3 (by decide), set_far h.c4 (by decide), set_far h.c5 (by decide), set_far h.c6 (by decide), set_far h.c7 (by decide), World.cell?_setCell_same _ _ _ h.c8⟩

set_option maxHeartbeats 3200000 in
theorem bdBase_is (n : Nat) (i1 cap i3 : Int) (cv dv : Value) (L : List Cu) (D : List (List Int)) (w : World) (hC : Custs w cv L) (hG : Grid w dv D) (hD : ArcBd D) (hI : OkI n L) :
    Calls Tryz.prog 15 #[.agg #[.int .i64 n, .int .i64 i1, .int .i64 cap, .int .i64 i3, cv, dv]] w (CostOut w (baseT n cap L D)) := by
  have hn20 : n ≤ 20 := by have := hI.n7; omega
  have hL4 : L.length ≤ 4000 := by have := hI.len; omega
  obtain ⟨w1, ew, hb1, hsz1, hx⟩ := box_inst w (.int .i64 n) (.int .i64 i1) (.int .i64 cap) (.int .i64 i3) cv dv
  obtain ⟨w2, ew2, hb2, hsz2, hr⟩ := box_rd w1 (.int .i64 n) (.int .i64 i1) (.int .i64 cap) (.int .i64 i3) cv dv (.slice none 0 0) (.slice none 0 0) (.slice none 0 0)
  have hfr : w2.frozen? ⟨w1.heap.size, 8, none⟩ = false := by rw [← ew2]; simp [go_sem]
  have hbb := bel2 hb1 hb2
  have hx2 := hx.below hb2
  have HCh := Lib.hid (cheap_is n i1 cap i3 cv dv L D w2 (hC.below hbb) (hG.below hbb) hL4)
  have HCw := Lib.hid hC
  have hlt1 : w.heap.size < w1.heap.size := hx.lt
  have Hr := Lib.hid hr
  have Hfr := Lib.hid hfr
  have HI := Lib.hid hI
  have HD := Lib.hid hD
  obtain ⟨ca, N, cc, rfl, hN, _, _⟩ := hC.open
  have Hres : Hid (baseT n cap L D = sumUpto (fun i => nth (comeL D L.length L.length) i * forcedC n cap (nthC L i)) L.length) := Lib.hid (sumUpto_congr _ _ _ (fun i hi => by rw [nth_comeL D L.length hi]))
  have Hew := Lib.hid ew
  have Hew2 := Lib.hid ew2
  have Hbb := Lib.hid hbb
  have hszw : w.heap.size ≤ w1.heap.size := hb1.size
  have hltr : w1.heap.size < w2.heap.size := hr.lt
  have Hx2 := Lib.hid hx2
  obtain ⟨da, dn, dc, rfl, _⟩ := hG.open
  obtain ⟨c0, c1, c2, c3, c4, c5⟩ := hx
  clear ew ew2 hsz1 hsz2 hr hx2 hC hG hb1 hb2 hbb hI hD hfr
  go_enter Tryz.func15, Tryz.ntmps15
  go_upto_region 1 with fail
  rw [Hew.out]
  go_upto_region 2 with fail
  rw [Hew2.out]
  clear c0 c1 c2 c3 c4 c5
  obtain ⟨c0, c1, c2, c3, c4, c5⟩ := Hx2.out
  generalize w1.heap.size = g2 at *
  go_wp2_with fail
  refine HCh.out.mono ?_
  rintro e w3 ⟨v, v2, rfl, hown, hb3⟩
  obtain ⟨va, vn, vc, rfl⟩ := own_slice hown
  have hr3 := Hr.out.below hb3
  have fr3 := frozen_below hb3 hltr Hfr.out
  have hr4 := hr3.store (.slice va vn vc)
  have hb4 : Below w.heap.size w (w3.setCell ⟨g2, 8, none⟩ (.slice va vn vc)) := (Hbb.out.trans (hb3.mono Hbb.out.size)).setCell (p := ⟨g2, 8, none⟩) hszw _
  have hg4 := grownBy_setCell w3 ⟨g2, 8, none⟩ (.slice va vn vc)
  have hx4 := (Hx2.out.below hb3).kept hg4 (by simp; omega)
  have hC4 : Custs (w3.setCell ⟨g2, 8, none⟩ (.slice va vn vc)) (.slice ca N cc) L := HCw.out.below hb4
  have hH4 : Own (w3.setCell ⟨g2, 8, none⟩ (.slice va vn vc)) w2.heap.size (.slice va vn vc) (comeL D L.length L.length) := hown.kept hg4 (hown.not hltr)
  have c8 := hr3.c8
  have HS := Lib.hid (sumArcs_is n i1 cap i3 (.slice ca N cc) (.slice da dn dc) L g2 (fun k => nth (comeL D L.length L.length) k * forcedC n cap (nthC L k)) _ hC4 hL4
    (fun W k h hk => rdArcs_is g2 i1 cap i3 (.slice ca N cc) (.slice da dn dc) _ _ (.slice va vn vc) L (comeL D L.length L.length) n k W (hr4.below h) (hC4.below h) (hH4.ints.below h) (comeL_len _ _ _) (by rw [nth_comeL D L.length hk]; have := cheapI_bd HD.out L.length k; omega) hk (HI.out.cus _ (nthC_mem hk)) hn20)
    (fun k hk => by
      have h1 := forcedC_bd cap hn20 (HI.out.cus _ (nthC_mem hk))
      have h2 := cheapI_bd HD.out L.length k
      rw [nth_comeL D L.length hk]
      have m1 := Int.mul_nonneg h2.1 h1.1
      have m2 := Int.mul_le_mul h2.2 h1.2 h1.1 (by omega)
      omega))
  rw [← Hres.out] at HS
  obtain ⟨c0, c1, c2, c3, c4, c5⟩ := hx4
  have Hb4 := Lib.hid hb4
  have hsz4 : w.heap.size ≤ (w3.setCell ⟨g2, 8, none⟩ (.slice va vn vc)).heap.size := hb4.size
  clear hown hb3 hr3 hr4 hb4 hg4 hC4 hH4
  go_wp2_with fail
  refine HS.out.mono ?_
  rintro e w5 ⟨rfl, hb5⟩
  have Hb5 := Lib.hid (Hb4.out.trans (hb5.mono hsz4))
  clear hb5
  go_wp2_with fail
  go_ret
  exact ⟨rfl, Hb5.out⟩

theorem valueT_eq (n : Nat) (cap : Int) (L : List Cu) (O I : List Int) : valueT n cap L O I = sumUpto (fun i => aloneC n cap (priceI2 O I i) (nthC L i)) L.length + (nth O 0 + nth I 0) * leastT n cap L := rfl

set_option maxHeartbeats 3200000 in
theorem bdValue_is (n : Nat) (i1 cap i3 : Int) (cv dv ov iv : Value) (L : List Cu) (O I : List Int) (w : World) (hC : Custs w cv L) (hO : Ints w ov O) (hI : Ints w iv I) (hOk : OkI n L) (hcap : 0 ≤ cap ∧ cap ≤ 4294967296) (hOl : O.length = L.length + 1) (hIl : I.length = L.length + 1) (hb : ∀ j, 0 ≤ nth O j ∧ nth O j ≤ 500 ∧ 0 ≤ nth I j ∧ nth I j ≤ 500) :
    Calls Tryz.prog 13 #[.agg #[.int .i64 n, .int .i64 i1, .int .i64 cap, .int .i64 i3, cv, dv], .agg #[ov, iv]] w (CostOut w (valueT n cap L O I)) := by
  have hn20 : n ≤ 20 := by have := hOk.n7; omega
  have hL4 : L.length ≤ 4000 := by have := hOk.len; omega
  obtain ⟨w1, ew, hb1, hsz1, hx⟩ := box_inst w (.int .i64 n) (.int .i64 i1) (.int .i64 cap) (.int .i64 i3) cv dv
  obtain ⟨w2, ew2, hb2, hsz2, hp0, hp1⟩ : ∃ w2, w1.alloc (.cells #[ov, iv] 29) = w2 ∧ Below w1.heap.size w1 w2 ∧ w2.heap.size = w1.heap.size + 1 ∧ w2.cell? ⟨w1.heap.size, 0, none⟩ = some ov ∧ w2.cell? ⟨w1.heap.size, 1, none⟩ = some iv :=
    ⟨_, rfl, (Below.refl _ _).alloc (Nat.le_refl _) _, by simp, by simp [go_sem], by simp [go_sem]⟩
  obtain ⟨w3, ew3, hb3, hsz3, hr⟩ := box_rd w2 (.int .i64 n) (.int .i64 i1) (.int .i64 cap) (.int .i64 i3) cv dv ov iv (.slice none 0 0)
  have hb12 := bel2 hb1 hb2
  have hbb := bel2 hb12 hb3
  have hx2 := hx.below hb2
  have hx3 := hx2.below hb3
  have hq0 := cell_below hb3 hp0
  have hq1 := cell_below hb3 hp1
  rw [hsz1] at hp0 hp1 hq0 hq1
  have HL := Lib.hid (fun (W : World) (h : Below w3.heap.size w3 W) => bdLeast_is n i1 cap i3 cv dv L W (hC.below (bel2 hbb h)) hOk hcap)
  have hlb := leastT_bd cap hn20 hOk.len hOk.cus
  have hab : ∀ k, k < L.length → 0 ≤ aloneC n cap (priceI2 O I k) (nthC L k) ∧ aloneC n cap (priceI2 O I k) (nthC L k) ≤ 1064000 := fun k hk => aloneC_bd cap hn20 (by have := hb (k + 1); unfold priceI2; omega) (hOk.cus _ (nthC_mem hk))
  have HS := Lib.hid (fun (W : World) (h : Below w3.heap.size w3 W) => sumAlone_is n i1 cap i3 cv dv L w2.heap.size (fun k => aloneC n cap (priceI2 O I k) (nthC L k)) W (hC.below (bel2 hbb h)) hL4
    (fun W' k h' hk => rdAlone_is w2.heap.size i1 cap i3 cv dv ov iv _ L O I n k W' (hr.below (bel2 h h')) (hC.below (bel2 hbb (bel2 h h'))) (hO.below (bel2 hbb (bel2 h h'))) (hI.below (bel2 hbb (bel2 h h'))) hk (hOk.cus _ (nthC_mem hk)) hOk.n7 hOk.n1 hOl hIl hb hL4)
    (fun k hk => by have := hab k hk; omega))
  have hsb := sumUpto_bd (fun k => aloneC n cap (priceI2 O I k) (nthC L k)) 1064000 L.length hab
  have hlen := hOk.len
  have Hres := Lib.hid (valueT_eq n cap L O I)
  have hb0 := hb 0
  obtain ⟨oa, on, oc, rfl, hon, _, hoc⟩ := hO.open
  obtain ⟨ia, inn, ic, rfl, hinn, _, hic⟩ := hI.open
  obtain ⟨b1, o1, rfl, f1⟩ := hoc 0 (by omega)
  obtain ⟨b2, o2, rfl, f2⟩ := hic 0 (by omega)
  rw [Nat.add_zero] at f1 f2
  have g1 := cell_below hbb f1
  have g2 := cell_below hbb f2
  obtain ⟨ca, N, cc, rfl, hN, _, _⟩ := hC.open
  generalize sumUpto (fun k => aloneC n cap (priceI2 O I k) (nthC L k)) L.length = S at *
  generalize leastT n cap L = LT at *
  generalize nth O 0 = X at *
  generalize nth I 0 = Y at *
  have hw : IntKind.i64.wrap (X + Y) = X + Y := IntWalk.i64_in _ (by omega)
  have m1 : 0 ≤ (X + Y) * LT := Int.mul_nonneg (by omega) hlb.1
  have m2 : (X + Y) * LT ≤ 1000 * 200100 := Int.mul_le_mul (by omega) hlb.2 hlb.1 (by omega)
  have hti : timesE (X + Y) LT = ((X + Y) * LT, true) := by unfold timesE; rw [if_pos (fitsI_iff.2 (by omega))]
  have HT := Lib.hid (fun (W : World) => times_is (X + Y) LT W (fitsI_iff.2 (by omega)) (fitsI_iff.2 (by omega)))
  rw [hti] at HT
  simp only at HT
  generalize (X + Y) * LT = PR at *
  have hsat := fun (W : World) => sat_is S PR W (fitsI_iff.2 (by omega)) (fitsI_iff.2 (by omega))
  rw [sat_fit (fitsI_iff.2 (by omega))] at hsat
  have Hsat := Lib.hid hsat
  have hon0 : (0 : Int) < (on : Int) := by omega
  have hin0 : (0 : Int) < (inn : Int) := by omega
  have Hew := Lib.hid ew
  have Hew2 := Lib.hid ew2
  have Hew3 := Lib.hid ew3
  have Hbb := Lib.hid hbb
  have hszw : w.heap.size ≤ w3.heap.size := hbb.size
  have Hx3 := Lib.hid hx3
  have Hq0 := Lib.hid hq0
  have Hq1 := Lib.hid hq1
  obtain ⟨da, hda⟩ : ∃ da, da = dv := ⟨_, rfl⟩
  obtain ⟨c0, c1, c2, c3, c4, c5⟩ := hx2
  clear ew ew2 ew3 hsz1 hsz2 hsz3 hr hx3 hx hC hO hI hb1 hb2 hb3 hbb hb12 hOk hq0 hq1 hoc hic f1 f2 hon hinn hOl hIl hb hab hsat hti hN hda hL4
  go_enter Tryz.func13, Tryz.ntmps13
  go_upto_region 1 with fail
  rw [Hew.out]
  rw [Hew2.out]
  go_upto_region 2 with fail
  rw [Hew3.out]
  clear c0 c1 c2 c3 c4 c5 hp0 hp1
  have x0 := Ext.cell Hx3.out.c0
  have x1 := Ext.cell Hx3.out.c1
  have x2 := Ext.cell Hx3.out.c2
  have x3 := Ext.cell Hx3.out.c3
  have x4 := Ext.cell Hx3.out.c4
  have x5 := Ext.cell Hx3.out.c5
  have y0 := Ext.cell Hq0.out
  have y1 := Ext.cell Hq1.out
  have y2 := Ext.cell g1
  have y3 := Ext.cell g2
  clear g1 g2
  go_cut [6, 7] (fun s6 s7 wx => s6 = .int .i64 PR ∧ s7 = .bool true ∧ Below w3.heap.size w3 wx)
  case first =>
    refine wp_region_ext (by kernel_rfl) (by kernel_rfl) ?_
    repeat (go_big_quiet_step (first
      | (go_at_call 11; exact ext_call _ (HL.out _ (Ext.below _)))
      | (go_at_call 33; exact ext_same _ (HT.out _))))
    refine wpQuiet_nil ?_
    intro _ hw'
    obtain ⟨z, rfl⟩ := hw'
    go_wp2_with fail
    go_meet
    exact ⟨rfl, rfl, z.below⟩
  case rest =>
    obtain ⟨rfl, rfl, hbc⟩ := hcut
    obtain ⟨w6, rfl⟩ : ∃ w6 : World, w6 = wc := ⟨_, rfl⟩
    have HS6 := Lib.hid (HS.out w6 hbc)
    have Hbc := Lib.hid (Hbb.out.trans (hbc.mono hszw))
    have hsz6 : w.heap.size ≤ w6.heap.size := Hbc.out.size
    obtain ⟨c0, c1, c2, c3, c4, c5⟩ := Hx3.out.below hbc
    clear hbc x0 x1 x2 x3 x4 x5 y0 y1 y2 y3
    go_wp2_with fail
    refine HS6.out.mono ?_
    rintro e w7 ⟨rfl, hb7⟩
    have Hb7 := Lib.hid (Hbc.out.trans (hb7.mono hsz6))
    clear hb7
    go_wp2_with fail
    refine (Hsat.out _).mono ?_
    rintro e w' ⟨rfl, rfl⟩
    go_wp2_with fail
    go_ret
    rw [Hres.out]
    exact ⟨rfl, Hb7.out⟩

set_option maxHeartbeats 3200000 in
theorem bdBest_is (n : Nat) (i1 cap i3 : Int) (cv dv ov iv : Value) (L : List Cu) (D : List (List Int)) (O I : List Int) (w : World) (hC : Custs w cv L) (hG : Grid w dv D) (hD : ArcBd D) (hO : Ints w ov O) (hI : Ints w iv I) (hOk : OkI n L) (hcap : 0 ≤ cap ∧ cap ≤ 4294967296) (hOl : O.length = L.length + 1) (hIl : I.length = L.length + 1) (hb : ∀ j, 0 ≤ nth O j ∧ nth O j ≤ 500 ∧ 0 ≤ nth I j ∧ nth I j ≤ 500) :
    Calls Tryz.prog 17 #[.agg #[.int .i64 n, .int .i64 i1, .int .i64 cap, .int .i64 i3, cv, dv], .agg #[ov, iv]] w (CostOut w (bestT n cap L D O I)) := by
  obtain ⟨w1, ew, hb1, hsz1, hx⟩ := box_inst w (.int .i64 n) (.int .i64 i1) (.int .i64 cap) (.int .i64 i3) cv dv
  obtain ⟨w2, ew2, hb2, hsz2, hp0, hp1⟩ : ∃ w2, w1.alloc (.cells #[ov, iv] 29) = w2 ∧ Below w1.heap.size w1 w2 ∧ w2.heap.size = w1.heap.size + 1 ∧ w2.cell? ⟨w1.heap.size, 0, none⟩ = some ov ∧ w2.cell? ⟨w1.heap.size, 1, none⟩ = some iv :=
    ⟨_, rfl, (Below.refl _ _).alloc (Nat.le_refl _) _, by simp, by simp [go_sem], by simp [go_sem]⟩
  have hbb := bel2 hb1 hb2
  have hx2 := hx.below hb2
  rw [hsz1] at hp0 hp1
  have HV := Lib.hid (fun (W : World) (h : Below w2.heap.size w2 W) => bdValue_is n i1 cap i3 cv dv ov iv L O I W (hC.below (bel2 hbb h)) (hO.below (bel2 hbb h)) (hI.below (bel2 hbb h)) hOk hcap hOl hIl hb)
  have HB := Lib.hid (fun (W : World) (h : Below w2.heap.size w2 W) => bdBase_is n i1 cap i3 cv dv L D W (hC.below (bel2 hbb h)) (hG.below (bel2 hbb h)) hD hOk)
  have Hres : Hid (bestT n cap L D O I = max (valueT n cap L O I) (baseT n cap L D)) := Lib.hid rfl
  generalize valueT n cap L O I = V at *
  generalize baseT n cap L D = B at *
  have hm1 : (V < B ∧ decide (V < B) = true ∧ max V B = B) ∨ (¬ V < B ∧ decide (V < B) = false ∧ max V B = V) := by
    by_cases h : V < B
    · exact .inl ⟨h, decide_eq_true h, by omega⟩
    · exact .inr ⟨h, decide_eq_false h, by omega⟩
  obtain ⟨oa, on, oc, rfl, _⟩ := hO.open
  obtain ⟨ia, inn, ic, rfl, _⟩ := hI.open
  obtain ⟨ca, N, cc, rfl, _⟩ := hC.open
  obtain ⟨da, dn, dc, rfl, _⟩ := hG.open
  have x0 := Ext.cell hx2.c0
  have x1 := Ext.cell hx2.c1
  have x2 := Ext.cell hx2.c2
  have x3 := Ext.cell hx2.c3
  have x4 := Ext.cell hx2.c4
  have x5 := Ext.cell hx2.c5
  have y0 := Ext.cell hp0
  have y1 := Ext.cell hp1
  have Hew := Lib.hid ew
  have Hew2 := Lib.hid ew2
  have Hbb := Lib.hid hbb
  have hszw : w.heap.size ≤ w2.heap.size := hbb.size
  clear ew ew2 hsz1 hsz2 hx hx2 hC hG hO hI hb1 hb2 hbb hOk hOl hIl hb hp0 hp1 hD
  rcases hm1 with ⟨q1, q2, q3⟩ | ⟨q1, q2, q3⟩
  all_goals
    rw [q3] at Hres
    clear q3
    go_enter Tryz.func17, Tryz.ntmps17
    go_upto_region 1 with fail
    rw [Hew.out]
    rw [Hew2.out]
    refine wp_region_ext (by kernel_rfl) (by kernel_rfl) ?_
    repeat (go_big_quiet_step (first
      | (go_at_call 13; exact ext_call _ (HV.out _ (Ext.below _)))
      | (go_at_call 15; exact ext_call _ (HB.out _ (Ext.below _)))))
    refine wpQuiet_nil ?_
    intro _ hw'
    obtain ⟨z, rfl⟩ := hw'
    go_wp2_with fail
    go_ret
    rw [Hres.out]
    exact ⟨rfl, Hbb.out.trans (z.below.mono hszw)⟩
end

section
open Go.RowKit
set_option linter.unusedVariables false
set_option maxRecDepth 100000
attribute [local go_sem ↓] Go.wp_at_zero Go.wp_at_succ

/-- What no plan costs less than, by these prices to come. -/
def valI (n : Nat) (cap : Int) (L : List Cu) (D : List (List Int)) (I : List Int) : Int := valueT n cap L (outL D (L.length + 1) I) I
def climbStep (n : Nat) (cap : Int) (L : List Cu) (D : List (List Int)) (c : List Int × Int) : List Int × Int :=
  (if valI n cap L D c.1 < valI n cap L D (inL D (L.length + 1) (lowerL c.1 (wordOf c.2 % ((L.length + 1 : Nat) : Int)) (wordOf (stOf c.2) % (nth c.1 (wordOf c.2 % ((L.length + 1 : Nat) : Int)).toNat + 1))))
    then inL D (L.length + 1) (lowerL c.1 (wordOf c.2 % ((L.length + 1 : Nat) : Int)) (wordOf (stOf c.2) % (nth c.1 (wordOf c.2 % ((L.length + 1 : Nat) : Int)).toNat + 1))) else c.1, stOf (stOf c.2))
def climbS (n : Nat) (cap : Int) (L : List Cu) (D : List (List Int)) (seed : Int) : Nat → List Int × Int
  | 0 => (inL D (L.length + 1) (firstL (L.length + 1)), IntKind.u64.wrap seed)
  | k + 1 => climbStep n cap L D (climbS n cap L D seed k)
/-- What is found. -/
def climbB (n : Nat) (cap : Int) (L : List Cu) (D : List (List Int)) (seed : Int) (k : Nat) : Int :=
  bestT n cap L D (outL D (L.length + 1) (climbS n cap L D seed k).1) (climbS n cap L D seed k).1
theorem climb_fit (n : Nat) (cap : Int) (L : List Cu) (D : List (List Int)) (seed : Int) (k : Nat) : ∃ l, (climbS n cap L D seed k).1 = inL D (L.length + 1) l := by
  induction k with
  | zero => exact ⟨_, rfl⟩
  | succ k ih =>
    rw [climbS, climbStep]
    simp only []
    split
    · exact ⟨_, rfl⟩
    · exact ih

theorem mod_nat (x m : Int) (h : 1 ≤ m) : ∃ p : Nat, x % m = (p : Int) ∧ (p : Int) < m := by
  have h1 := Int.emod_nonneg x (b := m) (by omega)
  have h2 := Int.emod_lt_of_pos x (b := m) (by omega)
  exact ⟨(x % m).toNat, by omega, by omega⟩

theorem box_prices (w : World) (ov iv : Value) : ∃ w1, w.alloc (.cells #[ov, iv] 29) = w1 ∧ Below w.heap.size w w1 ∧ w1.heap.size = w.heap.size + 1 ∧ Blk2 w1 w.heap.size ov iv :=
  ⟨_, rfl, (Below.refl _ _).alloc (Nat.le_refl _) _, by simp, Blk2.new _ _ _ _⟩

structure ClSt (w0 : World) (g0 gr gs gp B2 : Nat) (n i1 cap i3 : Int) (cv dv ov iv : Value) (O I : List Int) (s : Int) (wr : World) : Prop where
  inst : IsInst wr g0 (.int .i64 n) (.int .i64 i1) (.int .i64 cap) (.int .i64 i3) cv dv
  str : IsStream wr gs s
  blk : Blk2 wr gp ov iv
  hO : Ints wr ov O
  hI : Ints wr iv I
  res : Blk2 wr gr (.slice none 0 0) (.slice none 0 0)
  nO : ∀ j, ov.ownBlock = some j → j ≠ gs ∧ j ≠ gp ∧ B2 ≤ j
  nI : ∀ j, iv.ownBlock = some j → j ≠ gs ∧ j ≠ gp ∧ B2 ≤ j
  rb : gr < B2 ∧ B2 ≤ gs ∧ gs < gp
  d1 : g0 ≠ gs
  d2 : g0 ≠ gp
  d3 : gs ≠ gp
  bel : Below w0.heap.size w0 wr
  ls : w0.heap.size ≤ gs
  lp : w0.heap.size ≤ gp
section
variable {w0 : World} {g0 gr gs gp B2 : Nat} {n i1 cap i3 : Int} {cv dv ov iv : Value} {O I : List Int} {s : Int} {wr w' : World}
theorem ClSt.stream (h : ClSt w0 g0 gr gs gp B2 n i1 cap i3 cv dv ov iv O I s wr) (hg : wr.grownBy w' (some gs)) {s' : Int} (hs : IsStream w' gs s') : ClSt w0 g0 gr gs gp B2 n i1 cap i3 cv dv ov iv O I s' w' :=
  ⟨h.inst.kept hg (by simpa using h.d1), hs, h.blk.kept hg (by simpa using Ne.symm h.d3), h.hO.kept hg (fun _ e => (h.nO _ e).1 rfl), h.hI.kept hg (fun _ e => (h.nI _ e).1 rfl), h.res.kept hg (by have := h.rb; simp; omega), h.nO, h.nI, h.rb, h.d1, h.d2, h.d3,
    h.bel.grown hg (h.bel.size) (fun k hk => by simp at hk; subst hk; exact h.ls), h.ls, h.lp⟩
theorem ClSt.below (h : ClSt w0 g0 gr gs gp B2 n i1 cap i3 cv dv ov iv O I s wr) (hb : Below wr.heap.size wr w') : ClSt w0 g0 gr gs gp B2 n i1 cap i3 cv dv ov iv O I s w' :=
  ⟨h.inst.below hb, h.str.below hb h.str.lt, h.blk.below hb, h.hO.below hb, h.hI.below hb, h.res.below hb, h.nO, h.nI, h.rb, h.d1, h.d2, h.d3, h.bel.trans (hb.mono h.bel.size), h.ls, h.lp⟩
theorem ClSt.store (h : ClSt w0 g0 gr gs gp B2 n i1 cap i3 cv dv ov iv O I s wr) {ov' iv' : Value} {O' I' : List Int} (hO : Ints wr ov' O') (hI : Ints wr iv' I') (nO : ∀ j, ov'.ownBlock = some j → j ≠ gs ∧ j ≠ gp ∧ B2 ≤ j) (nI : ∀ j, iv'.ownBlock = some j → j ≠ gs ∧ j ≠ gp ∧ B2 ≤ j) :
    ClSt w0 g0 gr gs gp B2 n i1 cap i3 cv dv ov' iv' O' I' s ((wr.setCell ⟨gp, 0, none⟩ ov').setCell ⟨gp, 1, none⟩ iv') := by
  have hg := grown2 wr gp ov' iv'
  exact ⟨h.inst.kept hg (by simpa using h.d2), h.str.kept hg h.d3, h.blk.set _ _, hO.kept hg (fun _ e => (nO _ e).2.1 rfl), hI.kept hg (fun _ e => (nI _ e).2.1 rfl), h.res.kept hg (by have := h.rb; simp; omega), nO, nI, h.rb, h.d1, h.d2, h.d3, h.bel.trans (below2 wr gp ov' iv' h.lp), h.ls, h.lp⟩
end

def ClimbOut (w : World) (O I : List Int) (b : Int) (e : Ending) (w' : World) : Prop := ∃ ov iv, e = .returned (.tuple #[.agg #[ov, iv], .int .i64 b]) ∧ Ints w' ov O ∧ Ints w' iv I ∧ Below w.heap.size w w'

set_option maxHeartbeats 6400000 in
theorem climb_is (n : Nat) (i1 cap i3 seed budget : Int) (cv dv : Value) (L : List Cu) (D : List (List Int)) (w : World) (hC : Custs w cv L) (hG : Grid w dv D) (hD : ArcBd D) (hI : OkI n L) (hcap : 0 ≤ cap ∧ cap ≤ 4294967296) :
    Calls Tryz.prog 23 #[.agg #[.int .i64 n, .int .i64 i1, .int .i64 cap, .int .i64 i3, cv, dv], .int .i64 seed, .int .i64 budget] w
      (ClimbOut w (outL D (L.length + 1) (climbS n cap L D seed (clipI budget 0 1000).toNat).1) (climbS n cap L D seed (clipI budget 0 1000).toNat).1 (climbB n cap L D seed (clipI budget 0 1000).toNat)) := by
  obtain ⟨K, hK⟩ : ∃ K : Nat, clipI budget 0 1000 = (K : Int) := ⟨(clipI budget 0 1000).toNat, by unfold clipI; omega⟩
  have hK1000 : K ≤ 1000 := by unfold clipI at hK; omega
  have hKn : (clipI budget 0 1000).toNat = K := by omega
  rw [hKn]
  have HK := Lib.hid hK
  have HC := Lib.hid hC
  have HG := Lib.hid hG
  have HD := Lib.hid hD
  have HI := Lib.hid hI
  have hlen := hI.len
  obtain ⟨w1, ew, hb1, hsz1, hx⟩ := box_inst w (.int .i64 n) (.int .i64 i1) (.int .i64 cap) (.int .i64 i3) cv dv
  obtain ⟨w2, ew2, hb2, hsz2, hr⟩ := box_prices w1 (.slice none 0 0) (.slice none 0 0)
  have hbb := bel2 hb1 hb2
  have Hbb := Lib.hid hbb
  have hx2 := hx.below hb2
  have hszw : w.heap.size ≤ w2.heap.size := hbb.size
  have hlt0 := hx2.lt
  rw [hsz1] at hr
  have Hr := Lib.hid hr
  have HF := Lib.hid (first_is n i1 cap i3 cv dv L D (L.length + 1) w2 (hC.below hbb) (hG.below hbb) rfl (by omega) hD)
  obtain ⟨ca, N, cc, rfl, hN, _, _⟩ := hC.open
  obtain ⟨da, dn, dc, rfl, _⟩ := hG.open
  have Hew := Lib.hid ew
  have Hew2 := Lib.hid ew2
  have Hx2 := Lib.hid hx2
  have HN := Lib.hid hN
  have hN100 : N ≤ 100 := by omega
  obtain ⟨c0, c1, c2, c3, c4, c5⟩ := hx2
  clear ew ew2 hsz1 hsz2 hr hx hC hG hD hI hb1 hb2 hbb hK hKn hN
  go_enter Tryz.func23, Tryz.ntmps23
  go_upto_region 1 with fail
  rw [Hew.out]
  rw [Hew2.out]
  go_wp2_with fail
  refine HF.out.mono ?_
  rintro e w3 ⟨ov0, iv0, rfl, hP, hb3⟩
  obtain ⟨oa, on, oc, rfl⟩ := own_slice hP.1
  obtain ⟨ia, inn, ic, rfl⟩ := own_slice hP.2.1
  have Hx3 := Lib.hid (Hx2.out.below hb3)
  go_wp2_with fail
  refine (new_is seed w3).mono ?_
  rintro e w4 ⟨rfl, hs4, hb4⟩
  obtain ⟨w5, ew5, hb5, hsz5, hbl5⟩ := box_prices w4 (.slice oa on oc) (.slice ia inn ic)
  have Hew5 := Lib.hid ew5
  have hb45 := bel2 hb4 hb5
  have hb35 := bel2 hb3 hb45
  have hlts : w3.heap.size < w4.heap.size := hs4.lt
  have hlr : w.heap.size + 1 < w2.heap.size := Hr.out.lt
  have hs23 : w2.heap.size ≤ w3.heap.size := hb3.size
  obtain ⟨I0, hI0⟩ : ∃ I0, I0 = inL D (L.length + 1) (firstL (L.length + 1)) := ⟨_, rfl⟩
  rw [← hI0] at hP
  have hst : ClSt w w.heap.size (w.heap.size + 1) w3.heap.size w4.heap.size w2.heap.size n i1 cap i3 (.slice ca N cc) (.slice da dn dc) (.slice oa on oc) (.slice ia inn ic) (outL D (L.length + 1) I0) I0 (IntKind.u64.wrap seed) w5 :=
    ⟨Hx3.out.below hb45, hs4.below hb5 hlts, hbl5, hP.1.ints.below hb45, hP.2.1.ints.below hb45, (Hr.out.below hb35), fun j hj => by have := hP.1.lt j hj; omega, fun j hj => by have := hP.2.1.lt j hj; omega, by omega, by omega, by omega, by omega, Hbb.out.trans (hb35.mono hszw), by omega, by omega⟩
  have Hst := Lib.hid hst
  have HV := Lib.hid (fun (W : World) (ov iv : Value) (I : List Int) (hf : ∃ l, I = inL D (L.length + 1) l) (h : Below w.heap.size w W) (hO : Ints W ov (outL D (L.length + 1) I)) (hI : Ints W iv I) =>
    show Calls Tryz.prog 13 #[.agg #[.int .i64 n, .int .i64 i1, .int .i64 cap, .int .i64 i3, .slice ca N cc, .slice da dn dc], .agg #[ov, iv]] W (CostOut W (valI n cap L D I)) from by
      obtain ⟨l, rfl⟩ := hf
      exact bdValue_is n i1 cap i3 _ _ ov iv L _ _ W (HC.out.below h) hO hI HI.out hcap (outL_len _ _ _) (inL_len _ _ _) (fun j => by have h1 := nth_out_bd HD.out (L.length + 1) l j; have h2 := nth_in_bd HD.out (L.length + 1) l j; omega))
  have HBe := Lib.hid (fun (W : World) (ov iv : Value) (I : List Int) (hf : ∃ l, I = inL D (L.length + 1) l) (h : Below w.heap.size w W) (hO : Ints W ov (outL D (L.length + 1) I)) (hI : Ints W iv I) =>
    show Calls Tryz.prog 17 #[.agg #[.int .i64 n, .int .i64 i1, .int .i64 cap, .int .i64 i3, .slice ca N cc, .slice da dn dc], .agg #[ov, iv]] W (CostOut W (bestT n cap L D (outL D (L.length + 1) I) I)) from by
      obtain ⟨l, rfl⟩ := hf
      exact bdBest_is n i1 cap i3 _ _ ov iv L D _ _ W (HC.out.below h) (HG.out.below h) HD.out hO hI HI.out hcap (outL_len _ _ _) (inL_len _ _ _) (fun j => by have h1 := nth_out_bd HD.out (L.length + 1) l j; have h2 := nth_in_bd HD.out (L.length + 1) l j; omega))
  have HLo := Lib.hid (fun (W : World) (ov iv : Value) (l : List Int) (place by_ : Int) (h : Below w.heap.size w W) (hI : Ints W iv (inL D (L.length + 1) l)) (hy0 : 0 ≤ by_) (hy1 : by_ ≤ 2147483648) =>
    lower_is n i1 cap i3 (.slice ca N cc) (.slice da dn dc) ov iv L D (inL D (L.length + 1) l) (L.length + 1) place by_ W (HC.out.below h) (HG.out.below h) hI rfl (by omega) HD.out (inL_len _ _ _) (fun k => by have h2 := nth_in_bd HD.out (L.length + 1) l k; omega) hy0 hy1)
  have hfit0 : ∃ l, I0 = inL D (L.length + 1) l := ⟨_, hI0⟩
  have Hfit0 := Lib.hid hfit0
  have hcl0 : (I0, IntKind.u64.wrap seed) = climbS n cap L D seed 0 := by rw [hI0]; rfl
  have Hcl0 := Lib.hid hcl0
  have hV0 := HV.out w5 (.slice oa on oc) (.slice ia inn ic) I0 hfit0 hst.bel hst.hO hst.hI
  have HV0 := Lib.hid hV0
  clear c0 c1 c2 c3 c4 c5 hP hs4 hb4 hb3 hb45 hb35 ew5 hb5 hsz5 hbl5 hst hI0 hfit0 hcl0 hV0 Hx2 Hx3 Hr HF
  go_upto_region 2 with fail
  rw [Hew5.out]
  generalize w3.heap.size = gs at *
  generalize w4.heap.size = gp at *
  generalize w2.heap.size = B2 at *
  obtain ⟨⟨c0, c1, c2, c3, c4, c5⟩, _, hblk, _, _, _, _, _, _, _, _, _, _, _, _⟩ := Hst.out
  obtain ⟨p0, p1, p2, p3⟩ := hblk.cells
  go_wp2_with fail
  refine HV0.out.mono ?_
  rintro e w6 ⟨rfl, hb6⟩
  have Hst6 := Lib.hid (Hst.out.below hb6)
  clear c0 c1 c2 c3 c4 c5 p0 p1 p2 p3 hblk hb6 Hst
  go_wp2_with fail
  refine (clip_is budget 0 1000 w6).mono ?_
  rintro e w' ⟨rfl, rfl⟩
  rw [HK.out]
  go_wp2_with fail
  go_loopw [10, 11, 12, 13, 14, 24] (fun s10 s11 s12 s13 s14 i wr => ∃ (k : Nat) (I : List Int) (s : Int) (oa ia : Option Addr) (on oc inn ic : Nat) (y11 y12 y13 y14 : Value), k ≤ K ∧ y11 = s11 ∧ y12 = s12 ∧ y13 = s13 ∧ y14 = s14 ∧ i = .int .i64 k ∧ s10 = .int .i64 (valI n cap L D I) ∧ (I, s) = climbS n cap L D seed k ∧ ClSt w w.heap.size (w.heap.size + 1) gs gp B2 n i1 cap i3 (.slice ca N cc) (.slice da dn dc) (.slice oa on oc) (.slice ia inn ic) (outL D (L.length + 1) I) I s wr) (fun _ _ _ _ _ i _ => K - (intOf i).toNat)
  case atStart => exact ⟨0, I0, _, _, _, _, _, _, _, _, _, _, _, Nat.zero_le _, rfl, rfl, rfl, rfl, rfl, rfl, Hcl0.out, Hst6.out⟩
  case round =>
    obtain ⟨k, I, s, oa', ia', on', oc', inn', ic', y11, y12, y13, y14, hk, rfl, rfl, rfl, rfl, rfl, rfl, hcl, hst⟩ := hrel
    obtain ⟨wo, rfl⟩ : ∃ wo : World, wo = wr := ⟨_, rfl⟩
    have Hst := Lib.hid hst
    have Hcl := Lib.hid hcl
    obtain ⟨l, hl⟩ : ∃ l, I = inL D (L.length + 1) l := by
      obtain ⟨l, h⟩ := climb_fit n cap L D seed k
      rw [← hcl] at h
      exact ⟨l, h⟩
    have Hl := Lib.hid hl
    by_cases hlt : k < K
    · have hi1 : (k : Int) < (K : Int) := by omega
      have hIl : I.length = N + 1 := by rw [hl, inL_len, HN.out]
      obtain ⟨pl, hpl, hplN⟩ := mod_nat (wordOf s) ((N : Int) + 1) (by omega)
      have hXb := nth_in_bd HD.out (L.length + 1) l pl
      rw [← hl] at hXb
      obtain ⟨X, hX⟩ : ∃ X, nth I pl = X := ⟨_, rfl⟩
      rw [hX] at hXb
      obtain ⟨y1, hyy, hyb⟩ := mod_nat (wordOf (stOf s)) (X + 1) (by omega)
      obtain ⟨yy, hyz⟩ : ∃ yy : Int, yy = (y1 : Int) := ⟨_, rfl⟩
      rw [← hyz] at hyy hyb
      have hyb : 0 ≤ yy ∧ yy ≤ 60 := by omega
      clear hyz
      obtain ⟨J, hJ⟩ : ∃ J, J = inL D (L.length + 1) (lowerL I pl yy) := ⟨_, rfl⟩
      have hstep : climbS n cap L D seed (k + 1) = (if valI n cap L D I < valI n cap L D J then J else I, stOf (stOf s)) := by
        rw [climbS, ← hcl]
        unfold climbStep
        simp only []
        rw [show (((L.length + 1 : Nat) : Int)) = (N : Int) + 1 by have := HN.out; omega, hpl, Int.toNat_natCast, hX, hyy, ← hJ]
      have Hstep := Lib.hid hstep
      have HJ := Lib.hid hJ
      have HB1 := Lib.hid (below_is gs s ((N : Int) + 1) wo hst.str (by omega) (Lib.hid (by omega)))
      rw [hpl] at HB1
      have HB2 := Lib.hid (fun (W : World) (h : IsStream W gs (stOf s)) => below_is gs (stOf s) (X + 1) W h (by omega) (Lib.hid (by omega)))
      rw [hyy] at HB2
      have hLo := fun (W : World) (ov iv : Value) (h : Below w.heap.size w W) (hI : Ints W iv (inL D (L.length + 1) l)) => HLo.out W ov iv l pl yy h hI hyb.1 (by omega)
      rw [← hl, ← hJ] at hLo
      have HLo2 := Lib.hid hLo
      obtain ⟨i', iN, iC, he, hil, _, hic⟩ := hst.hI.open
      simp only [Value.slice.injEq] at he
      obtain ⟨rfl, rfl, rfl⟩ := he
      obtain ⟨bI, oI, rfl, _⟩ := hic pl (by omega)
      have hinn : inn' = N + 1 := by omega
      subst hinn
      have Hcell : Hid (∀ W, Ints W (.slice (some ⟨bI, oI, none⟩) (N + 1) ic') I → W.cell? ⟨bI, oI + pl, none⟩ = some (.int .i64 X)) := Lib.hid (fun W h => by
        obtain ⟨a2, n2, c2, he, _, _, hc2⟩ := h.open
        simp only [Value.slice.injEq] at he
        obtain ⟨rfl, rfl, rfl⟩ := he
        obtain ⟨b2, o2, e2, hc3⟩ := hc2 pl (by omega)
        cases e2
        rw [← hX]
        exact hc3)
      have hj0 : (0 : Int) ≤ (pl : Int) := by omega
      have hj1 : (pl : Int) < ((N + 1 : Nat) : Int) := by omega
      have hj2 : (pl : Int) < (N : Int) + 1 := by omega
      obtain ⟨⟨c0, c1, c2, c3, c4, c5⟩, _, hblk, _, _, _, _, _, _, _, _, _, _, _, _⟩ := Hst.out
      clear hcl hst hl hpl hX hyy hJ hstep hil hic hIl hLo hblk
      go_wp2_with fail
      refine HB1.out.mono ?_
      rintro e w7 ⟨rfl, hs7, hg7⟩
      have Hst7 := Lib.hid (Hst.out.stream hg7 hs7)
      have HB7 := Lib.hid (HB2.out w7 hs7)
      have hc7 := Hcell.out w7 Hst7.out.hI
      clear c0 c1 c2 c3 c4 c5 hs7 hg7
      obtain ⟨⟨c0, c1, c2, c3, c4, c5⟩, _, hblk, _, _, _, _, _, _, _, _, _, _, _, _⟩ := Hst7.out
      obtain ⟨p0, p1, p2, p3⟩ := hblk.cells
      go_wp2_with fail
      refine HB7.out.mono ?_
      rintro e w8 ⟨rfl, hs8, hg8⟩
      have Hst8 := Lib.hid (Hst7.out.stream hg8 hs8)
      clear c0 c1 c2 c3 c4 c5 p0 p1 p2 p3 hblk hs8 hg8 hc7
      obtain ⟨⟨c0, c1, c2, c3, c4, c5⟩, _, hblk, _, _, _, _, _, _, _, _, _, _, _, _⟩ := Hst8.out
      obtain ⟨p0, p1, p2, p3⟩ := hblk.cells
      go_wp2_with fail
      refine (HLo2.out w8 _ _ Hst8.out.bel Hst8.out.hI).mono ?_
      rintro e w9 ⟨jo0, ji0, rfl, hP9, hb9⟩
      obtain ⟨ja, jn, jc, rfl⟩ := own_slice hP9.1
      obtain ⟨ka, kn, kc, rfl⟩ := own_slice hP9.2.1
      obtain ⟨w10, ew10, hb10, hsz10, hbl10⟩ := box_prices w9 (.slice ja jn jc) (.slice ka kn kc)
      have Hst10 := Lib.hid (Hst8.out.below (bel2 hb9 hb10))
      have hO10 := hP9.1.ints.below hb10
      have hI10 := hP9.2.1.ints.below hb10
      have hno : ∀ j, (Value.slice ja jn jc).ownBlock = some j → j ≠ gs ∧ j ≠ gp ∧ B2 ≤ j := fun j hj => by
        have h1 := (hP9.1.lt j hj).1
        have h2 := Hst8.out.str.lt
        have h3 := Hst8.out.blk.lt
        have h4 := Hst8.out.rb
        omega
      have hni : ∀ j, (Value.slice ka kn kc).ownBlock = some j → j ≠ gs ∧ j ≠ gp ∧ B2 ≤ j := fun j hj => by
        have h1 := (hP9.2.1.lt j hj).1
        have h2 := Hst8.out.str.lt
        have h3 := Hst8.out.blk.lt
        have h4 := Hst8.out.rb
        omega
      have Hno := Lib.hid hno
      have Hni := Lib.hid hni
      have Hew10 := Lib.hid ew10
      have Hbl10 := Lib.hid hbl10
      have HO10 := Lib.hid hO10
      have HI10 := Lib.hid hI10
      have HV10 := Lib.hid (HV.out w10 _ _ J ⟨_, HJ.out⟩ Hst10.out.bel hO10 hI10)
      clear c0 c1 c2 c3 c4 c5 p0 p1 p2 p3 hblk hP9 hb9 ew10 hb10 hsz10 hbl10 hO10 hI10 hno hni
      go_upto_region 8 with fail
      rw [Hew10.out]
      generalize w9.heap.size = gq at *
      obtain ⟨⟨c0, c1, c2, c3, c4, c5⟩, _, hblk, _, _, _, _, _, _, _, _, _, _, _, _⟩ := Hst10.out
      obtain ⟨p0, p1, p2, p3⟩ := hblk.cells
      obtain ⟨q0, q1, q2, q3⟩ := Hbl10.out.cells
      go_wp2_with fail
      refine HV10.out.mono ?_
      rintro e w11 ⟨rfl, hb11⟩
      have Hst11 := Lib.hid (Hst10.out.below hb11)
      have Hbl11 := Lib.hid (Hbl10.out.below hb11)
      have HO11 := Lib.hid (HO10.out.below hb11)
      have HI11 := Lib.hid (HI10.out.below hb11)
      clear c0 c1 c2 c3 c4 c5 p0 p1 p2 p3 q0 q1 q2 q3 hblk hb11
      obtain ⟨⟨c0, c1, c2, c3, c4, c5⟩, _, hblk, _, _, _, _, _, _, _, _, _, _, _, _⟩ := Hst11.out
      obtain ⟨p0, p1, p2, p3⟩ := hblk.cells
      obtain ⟨q0, q1, q2, q3⟩ := Hbl11.out.cells
      generalize hVJ : valI n cap L D J = VJ at *
      generalize hVI : valI n cap L D I = VI at *
      have HVJ := Lib.hid hVJ
      have HVI := Lib.hid hVI
      by_cases hlt2 : VI < VJ
      · have hq : decide (VI < VJ) = true := decide_eq_true hlt2
        have hs2 := Hstep.out
        rw [if_pos hlt2] at hs2
        have Hs2 := Lib.hid hs2
        have Hst12 := Lib.hid (Hst11.out.store HO11.out HI11.out Hno.out Hni.out)
        clear hlt2 hs2 hVJ hVI
        go_wp2_with fail
        go_roundw
        case rel => exact ⟨k + 1, J, _, _, _, _, _, _, _, _, _, _, _, by omega, rfl, rfl, rfl, rfl, by go_num, by rw [HVJ.out], Hs2.out.symm, Hst12.out⟩
        case measure => simp [intOf]; omega
      · have hq : decide (VI < VJ) = false := decide_eq_false hlt2
        have hs2 := Hstep.out
        rw [if_neg hlt2] at hs2
        have Hs2 := Lib.hid hs2
        clear hlt2 hs2 hVJ hVI
        go_wp2_with fail
        go_roundw
        case rel => exact ⟨k + 1, I, _, _, _, _, _, _, _, _, _, _, _, by omega, rfl, rfl, rfl, rfl, by go_num, by rw [HVI.out], Hs2.out.symm, Hst11.out⟩
        case measure => simp [intOf]; omega
    · have hkK : k = K := by omega
      subst hkK
      have hres1 : (climbS n cap L D seed k).1 = I := by rw [← hcl]
      have Hres1 := Lib.hid hres1
      have hBe := fun (W : World) => HBe.out W (.slice oa' on' oc') (.slice ia' inn' ic') I ⟨l, hl⟩
      have Hres2 : Hid (climbB n cap L D seed k = bestT n cap L D (outL D (L.length + 1) I) I) := Lib.hid (by unfold climbB; rw [hres1])
      generalize bestT n cap L D (outL D (L.length + 1) I) I = BB at *
      have HBe2 := Lib.hid hBe
      obtain ⟨⟨c0, c1, c2, c3, c4, c5⟩, _, hblk, hO, hI, hres, nO, nI, rb, _, _, _, bel, _, lp⟩ := hst
      obtain ⟨p0, p1, p2, p3⟩ := hblk.cells
      obtain ⟨r0, r1, r2, r3⟩ := hres.cells
      clear hcl hres1 hBe hl
      have hgr : w.heap.size + 1 ≠ gp := by have := rb; omega
      have hgr2 : gp ≠ w.heap.size + 1 := by have := rb; omega
      have hg0 : w.heap.size ≠ w.heap.size + 1 := by omega
      have hgs := grown2 wo (w.heap.size + 1) (.slice oa' on' oc') (.slice ia' inn' ic')
      have hbs : Below w.heap.size w ((wo.setCell ⟨w.heap.size + 1, 0, none⟩ (.slice oa' on' oc')).setCell ⟨w.heap.size + 1, 1, none⟩ (.slice ia' inn' ic')) := bel.trans (below2 wo _ _ _ (by omega))
      have hOs := hO.kept hgs (fun _ e => by have h1 := nO _ e; have h2 := rb; omega)
      have hIs := hI.kept hgs (fun _ e => by have h1 := nI _ e; have h2 := rb; omega)
      have hrs := hres.set (.slice oa' on' oc') (.slice ia' inn' ic')
      have b0 := Below.refl wo.heap.size wo
      have hszo : w.heap.size ≤ wo.heap.size := bel.size
      have Hrb := Lib.hid rb
      have HnO := Lib.hid nO
      have HnI := Lib.hid nI
      clear rb nO nI hblk
      go_upto_region 12 with fail
      first
        | (go_region_held3 (fun w' => w'.cell? ⟨w.heap.size, 0, none⟩ = some (.int .i64 n) ∧ w'.cell? ⟨w.heap.size, 1, none⟩ = some (.int .i64 i1) ∧ w'.cell? ⟨w.heap.size, 2, none⟩ = some (.int .i64 cap) ∧ w'.cell? ⟨w.heap.size, 3, none⟩ = some (.int .i64 i3) ∧ w'.cell? ⟨w.heap.size, 4, none⟩ = some (.slice ca N cc) ∧ w'.cell? ⟨w.heap.size, 5, none⟩ = some (.slice da dn dc) ∧ w'.cell? ⟨gp, 0, none⟩ = some (.slice oa' on' oc') ∧ w'.cell? ⟨gp, 1, none⟩ = some (.slice ia' inn' ic'))
            (first | go_keep | exact ⟨cell_below b9 c0, cell_below b9 c1, cell_below b9 c2, cell_below b9 c3, cell_below b9 c4, cell_below b9 c5, cell_below b9 p0, cell_below b9 p1⟩)
            (first
              | (go_at_call 17; refine (HBe2.out _ ?_ ?_ ?_).mono ?_; (first | exact bel | exact bel.drew | exact hbs | exact hbs.drew); (first | exact hO | exact hO.below (belDrew _) | exact hOs | exact hOs.below (belDrew _)); (first | exact hI | exact hI.below (belDrew _) | exact hIs | exact hIs.below (belDrew _)); rintro e w9 ⟨rfl, hb9⟩; (first | (have b9 := bel2 b0 hb9; obtain ⟨y0, y1, y2, y3⟩ := (hres.below b9).cells; have hO9 := hO.below b9; have hI9 := hI.below b9; have hB9 := bel.trans (b9.mono hszo)) | (have b9 := bel2 (belDrew wo) hb9; obtain ⟨y0, y1, y2, y3⟩ := (hres.below b9).cells; have hO9 := hO.below b9; have hI9 := hI.below b9; have hB9 := bel.trans (b9.mono hszo)) | skip))))
        | fail
      all_goals
        have hg9 := grown2 w9 (w.heap.size + 1) (.slice oa' on' oc') (.slice ia' inn' ic')
        have hOr := Lib.hid (hO9.kept hg9 (fun _ e => by have h1 := HnO.out _ e; have h2 := Hrb.out; omega))
        have hIr := Lib.hid (hI9.kept hg9 (fun _ e => by have h1 := HnI.out _ e; have h2 := Hrb.out; omega))
        have hBr := Lib.hid (hB9.trans (below2 w9 (w.heap.size + 1) (.slice oa' on' oc') (.slice ia' inn' ic') (by omega)))
        have z0 := World.cell?_setCell_same w9 ⟨w.heap.size + 1, 0, none⟩ (.slice oa' on' oc') y0
        clear hO9 hI9 hB9 hg9 hOs hIs hbs hgs hrs
        go_wp2_with fail
        have hcl9 := ((hres.below b9).set (.slice oa' on' oc') (.slice ia' inn' ic')).cells
        obtain ⟨s0, s1, _, _⟩ := hcl9
        refine bodyPost_ret (v := .tuple #[.agg #[.slice oa' on' oc', .slice ia' inn' ic'], .int .i64 BB]) (by simp [results, Tryz.results23, go_sem, s0, s1]) rfl ?_
        rw [Hres1.out, Hres2.out]
        exact ⟨_, _, rfl, hOr.out, hIr.out, hBr.out⟩
end

section
open Go.RowKit
set_option linter.unusedVariables false
set_option maxRecDepth 100000

theorem live18_bd : ArcBd liveD := arcBd_of (N := 1) (by
  intro i hi
  have : i < 2 := by simpa [liveD] using hi
  match i, this with
  | 0, _ => exact ⟨rfl, fun k hk => by match k, hk with | 0, _ => exact ⟨by decide, by decide, fun _ => rfl⟩ | 1, _ => exact ⟨by decide, by decide, fun h => by cases h⟩⟩
  | 1, _ => exact ⟨rfl, fun k hk => by match k, hk with | 0, _ => exact ⟨by decide, by decide, fun h => by cases h⟩ | 1, _ => exact ⟨by decide, by decide, fun _ => rfl⟩⟩) rfl
theorem none18_bd : ArcBd [[0]] := arcBd_of (N := 0) (by
  intro i hi
  have : i < 1 := by simpa using hi
  match i, this with
  | 0, _ => exact ⟨rfl, fun k hk => by match k, hk with | 0, _ => exact ⟨by decide, by decide, fun _ => rfl⟩⟩) rfl
theorem live18_ok : OkI 1 liveC := ⟨by decide, fun C hC => by simp [liveC] at hC; subst hC; exact .inl ⟨rfl, by decide, by decide, by decide, by decide, by decide, rfl⟩, by decide, by decide⟩
theorem none18_ok : OkI 1 [] := ⟨by decide, fun C hC => (by cases hC), by decide, by decide⟩
theorem none18_base : baseT 1 9 [] [[0]] = 0 := by decide +kernel
theorem none18_least : leastT 1 9 [] = 0 := by decide +kernel
theorem live18_base : baseT 1 9 liveC liveD = 3 := by decide +kernel
theorem live18_fit : (climbS 1 9 liveC liveD 1 (clipI 0 0 1000).toNat).1 = [4, 3] := by decide +kernel
theorem live18_out : outL liveD 2 [4, 3] = [0, 0] := by decide +kernel
theorem live18_best : climbB 1 9 liveC liveD 1 (clipI 0 0 1000).toNat = 7 := by decide +kernel

set_option maxRecDepth 100000 in
set_option maxHeartbeats 3200000 in
theorem lives18_is (w : World) : Calls Tryz.prog 19 #[] w fun e w' => e = .returned (.bool true) ∧ Below w.heap.size w w' := by
  obtain ⟨a1, ea1⟩ : ∃ a1, w.alloc (.cells #[.int .i64 0] 3) = a1 := ⟨_, rfl⟩
  obtain ⟨a2, ea2⟩ : ∃ a2, a1.alloc (.cells #[.slice (some ⟨w.heap.size, 0, none⟩) 1 1] 26) = a2 := ⟨_, rfl⟩
  have hba1 : Below w.heap.size w a1 := by rw [← ea1]; exact belAlloc _ _
  have hba2 : Below a1.heap.size a1 a2 := by rw [← ea2]; exact belAlloc _ _
  have sa1 : a1.heap.size = w.heap.size + 1 := by rw [← ea1]; simp
  have sa2 : a2.heap.size = w.heap.size + 1 + 1 := by rw [← ea2]; simp; omega
  have l1 : Lies a1 w.heap.size ([0].map (Value.int .i64)) := by rw [← ea1]; exact Lies.new w [_] _
  have l2 : Lies a2 a1.heap.size [.slice (some ⟨w.heap.size, 0, none⟩) 1 1] := by rw [← ea2]; exact Lies.new a1 [_] _
  rw [sa1] at l2
  obtain ⟨a3, ea3, hba3, sa3, hin0⟩ := box_inst a2 (.int .i64 1) (.int .i64 1) (.int .i64 9) (.int .i64 9) (.slice none 0 0) (.slice (some ⟨w.heap.size + 1, 0, none⟩) 1 1)
  rw [sa2] at hin0
  have hG0 : Grid a3 (.slice (some ⟨w.heap.size + 1, 0, none⟩) 1 1) [[0]] := by
    refine ⟨some ⟨w.heap.size + 1, 0, none⟩, 1, rfl, by decide, by decide, fun i hi => ?_⟩
    have : i < 1 := by simpa using hi
    match i, this with
    | 0, _ => exact ⟨w.heap.size + 1, 0, _, rfl, (l2.below hba3).at 0 _ rfl, ints_of (l1.below (bel2 hba2 hba3)) (by decide)⟩
  obtain ⟨w1, w2, w3, w4, w5, w6, e1, e2, e3, e4, e5, e6, hb, hsz, hin, hC, hG⟩ := live_inst a3
  have hba := bel2 (bel2 hba1 hba2) hba3
  have hin0' := hin0.below hb
  have hG0' := hG0.below hb
  have hbw := bel2 hba hb
  have Hf := Lib.hid (climb_is 1 1 9 9 1 0 _ _ liveC liveD w6 hC hG live18_bd live18_ok (by decide))
  have H1 := Lib.hid e1
  have H2 := Lib.hid e2
  have H3 := Lib.hid e3
  have H4 := Lib.hid e4
  have H5 := Lib.hid e5
  have H6 := Lib.hid e6
  have A1 := Lib.hid ea1
  have A2 := Lib.hid ea2
  have A3 := Lib.hid ea3
  have Hb := Lib.hid hbw
  have HC := Lib.hid hC
  have HG := Lib.hid hG
  have HG0 := Lib.hid hG0'
  have Hin := Lib.hid hin
  have Hin0 := Lib.hid hin0'
  have hle : w.heap.size ≤ w6.heap.size := hbw.size
  clear e1 e2 e3 e4 e5 e6 hC hG hb hsz ea1 ea2 ea3 hba1 hba2 hba3 hba sa1 sa2 sa3 l1 l2 hG0 hG0' hin0 hin0' hbw hin
  rw [live18_fit, live18_best] at Hf
  rw [show liveC.length + 1 = 2 from rfl, live18_out] at Hf
  obtain ⟨c0, c1, c2, c3, c4, c5⟩ := Hin.out
  go_enter Tryz.func19, Tryz.ntmps19
  go_upto_region 2 with fail
  rw [A1.out, A2.out, A3.out]
  go_upto_region 3 with fail
  rw [H1.out, H2.out, H3.out, H4.out, H5.out, H6.out]
  generalize a3.heap.size = ax at *
  go_wp2_with fail
  refine Hf.out.mono ?_
  rintro e w7 ⟨ov, iv, rfl, hO, hI, hb7⟩
  obtain ⟨oa, on, oc, rfl, _⟩ := hO.open
  obtain ⟨ia, inn, ic, rfl, _⟩ := hI.open
  obtain ⟨w8, ew8, hb8, hsz8, hbl8⟩ := box_prices w7 (.slice oa on oc) (.slice ia inn ic)
  have hb78 := bel2 hb7 hb8
  have Hew8 := Lib.hid ew8
  have Hin8 := Lib.hid (Hin.out.below hb78)
  have Hin08 := Lib.hid (Hin0.out.below hb78)
  have HB0 := Lib.hid (fun (W : World) (h : Below w8.heap.size w8 W) => bdBase_is 1 1 9 9 (.slice none 0 0) _ [] [[0]] W (Custs.nil W) (HG0.out.below (bel2 hb78 h)) none18_bd none18_ok)
  have HL0 := Lib.hid (fun (W : World) (h : Below w8.heap.size w8 W) => bdLeast_is 1 1 9 9 (.slice none 0 0) (.slice (some ⟨w.heap.size + 1, 0, none⟩) 1 1) [] W (Custs.nil W) none18_ok (by decide))
  have HBx := Lib.hid (fun (W : World) (h : Below w8.heap.size w8 W) => bdBase_is 1 1 9 9 _ _ liveC liveD W (HC.out.below (bel2 hb78 h)) (HG.out.below (bel2 hb78 h)) live18_bd live18_ok)
  have HPx := Lib.hid (fun (W : World) (h : Below w8.heap.size w8 W) => bdPrice_is 1 1 9 9 _ (.slice (some ⟨ax + 1 + 1 + 1 + 1, 0, none⟩) 2 2) (.slice oa on oc) (.slice ia inn ic) liveC [0, 0] [4, 3] 0 W (HC.out.below (bel2 hb78 h)) (hO.below (bel2 hb8 h)) (hI.below (bel2 hb8 h)) (by decide) rfl rfl (fun j => by
    match j with
    | 0 => decide
    | 1 => decide
    | j + 2 =>
      have e1 : nth [0, 0] (j + 2) = 0 := rfl
      have e2 : nth [4, 3] (j + 2) = 0 := rfl
      rw [e1, e2]; decide) (by decide))
  rw [none18_base] at HB0
  rw [none18_least] at HL0
  rw [live18_base] at HBx
  rw [show priceI2 [0, 0] [4, 3] 0 = 3 from rfl] at HPx
  have Hbl8 := Lib.hid hbl8
  have Hb8 := Lib.hid (Hb.out.trans (hb78.mono hle))
  have hsz8' : w.heap.size ≤ w8.heap.size := Hb8.out.size
  clear c0 c1 c2 c3 c4 c5 hb7 hb8 hb78 ew8 hsz8 hbl8 hO hI HG0 HC HG Hin Hin0 Hf Hb
  go_upto_region 4 with fail
  rw [Hew8.out]
  generalize w7.heap.size = gp at *
  obtain ⟨c0, c1, c2, c3, c4, c5⟩ := Hin08.out
  go_wp2_with fail
  refine (HB0.out _ (Below.refl _ _)).mono ?_
  rintro e w9 ⟨rfl, hb9⟩
  clear c0 c1 c2 c3 c4 c5
  obtain ⟨c0, c1, c2, c3, c4, c5⟩ := Hin08.out.below hb9
  go_wp2_with fail
  refine (HL0.out _ hb9).mono ?_
  rintro e w10 ⟨rfl, hb10'⟩
  have hb10 := bel2 hb9 hb10'
  clear c0 c1 c2 c3 c4 c5
  obtain ⟨c0, c1, c2, c3, c4, c5⟩ := Hin8.out.below hb10
  go_wp2_with fail
  refine (HBx.out _ hb10).mono ?_
  rintro e w11 ⟨rfl, hb11'⟩
  have hb11 := bel2 hb10 hb11'
  clear c0 c1 c2 c3 c4 c5
  obtain ⟨c0, c1, c2, c3, c4, c5⟩ := Hin8.out.below hb11
  obtain ⟨p0, p1, p2, p3⟩ := (Hbl8.out.below hb11).cells
  go_wp2_with fail
  refine (HPx.out _ hb11).mono ?_
  rintro e w12 ⟨rfl, hb12'⟩
  have hb12 := bel2 hb11 hb12'
  have HB12 := Lib.hid (Hb8.out.trans (hb12.mono hsz8'))
  clear c0 c1 c2 c3 c4 c5 p0 p1 p2 p3 hb9 hb10' hb10 hb11' hb11 hb12' hb12
  go_wp2_with fail
  go_ret
  exact ⟨rfl, HB12.out⟩
end

end Go.Proofs.YtnhcgpkcmfelkaaGreat
