/-
  My own work: layer 17, plainly: the least of some numbers, prices that fit, whether prices may be.
  My own work: dual.places, come, leave, least, Zero: their contracts.
  My own work: dual.Fit: its contract.
  My own work: dual.First, Lower: their contracts.
  My own work: dual.Slack, May; tranterref17.May: their contracts.
  My own work: tranterref17.Numbers, Same; tranterlaw17.size: their contracts.
  My own work: tranterref17.Fit: its contract.
  My own work: tranterref17.First, Lower: their contracts.
-/
import Derived.Test.YtnhcgpkcmfelkaaGreatMGood
import Derived.Test.YtnhcgpkcmfelkaaGreatMNum
import Derived.Test.YtnhcgpkcmfelkaaGreatOwnCopy
import Derived.IntWalk
import Derived.Deep.OwnRows
namespace Go.Proofs.YtnhcgpkcmfelkaaGreat
section
open Go.RowKit
set_option linter.unusedVariables false
set_option maxRecDepth 100000

/-- The least of the first k numbers but that of a place; whether there is one. -/
def lup (place : Nat) (f : Nat → Int) : Nat → Int × Bool
  | 0 => (0, false)
  | k + 1 => if k = place then lup place f k else if (lup place f k).2 = false ∨ f k < (lup place f k).1 then (f k, true) else lup place f k
def leastI (n place : Nat) (f : Nat → Int) : Int := (lup place f n).1

theorem lup_here (place : Nat) (f : Nat → Int) (k : Nat) (h : k = place) : lup place f (k + 1) = lup place f k := by rw [lup, if_pos h]
theorem lup_step (place : Nat) (f : Nat → Int) (k : Nat) (h : ¬ k = place) : lup place f (k + 1) = if (lup place f k).2 = false ∨ f k < (lup place f k).1 then (f k, true) else lup place f k := by rw [lup, if_neg h]
theorem lup_none (place : Nat) (f : Nat → Int) (n : Nat) (h : (lup place f n).2 = false) : (lup place f n).1 = 0 ∧ ∀ k, k < n → k = place := by
  induction n with
  | zero => exact ⟨rfl, fun k hk => by omega⟩
  | succ n ih =>
    by_cases e : n = place
    · rw [lup_here _ _ _ e] at h ⊢
      obtain ⟨h1, h2⟩ := ih h
      exact ⟨h1, fun k hk => by rcases Nat.lt_succ_iff_lt_or_eq.1 hk with h' | rfl; exact h2 k h'; exact e⟩
    · rw [lup_step _ _ _ e] at h
      split at h
      · cases h
      · rename_i hh
        exact absurd (.inl h) hh
theorem lup_some (place : Nat) (f : Nat → Int) (n : Nat) (h : (lup place f n).2 = true) : (∃ k, k < n ∧ k ≠ place ∧ f k = (lup place f n).1) ∧ ∀ k, k < n → k ≠ place → (lup place f n).1 ≤ f k := by
  induction n with
  | zero => cases h
  | succ n ih =>
    by_cases e : n = place
    · rw [lup_here _ _ _ e] at h ⊢
      obtain ⟨⟨k, h1, h2, h3⟩, h4⟩ := ih h
      exact ⟨⟨k, by omega, h2, h3⟩, fun j hj hne => h4 j (by omega) hne⟩
    · rw [lup_step _ _ _ e] at h ⊢
      split
      · rename_i hh
        refine ⟨⟨n, by omega, e, rfl⟩, fun j hj hne => ?_⟩
        show f n ≤ f j
        rcases Nat.lt_succ_iff_lt_or_eq.1 hj with h' | rfl
        · rcases hh with hh | hh
          · exact absurd ((lup_none place f n hh).2 j h') hne
          · cases h2 : (lup place f n).2 with
            | false => exact absurd ((lup_none place f n h2).2 j h') hne
            | true => have := (ih h2).2 j h' hne; omega
        · omega
      · rename_i hh
        have h2 : (lup place f n).2 = true := by
          cases h2 : (lup place f n).2 with
          | true => rfl
          | false => exact absurd (.inl h2) hh
        obtain ⟨⟨k, h1, h3, h4⟩, h5⟩ := ih h2
        refine ⟨⟨k, by omega, h3, h4⟩, fun j hj hne => ?_⟩
        rcases Nat.lt_succ_iff_lt_or_eq.1 hj with h' | rfl
        · exact h5 j h' hne
        · have : ¬ f j < (lup place f j).1 := fun h' => hh (.inr h')
          omega
theorem lup_has {place : Nat} {f : Nat → Int} {n k : Nat} (hk : k < n) (hne : k ≠ place) : (lup place f n).2 = true := by
  cases h : (lup place f n).2 with
  | true => rfl
  | false => exact absurd ((lup_none place f n h).2 k hk) hne
theorem lup_congr {place : Nat} {f g : Nat → Int} {n : Nat} (h : ∀ k, k < n → k ≠ place → f k = g k) : lup place f n = lup place g n := by
  induction n with
  | zero => rfl
  | succ n ih =>
    have ih' := ih (fun k hk => h k (by omega))
    by_cases e : n = place
    · rw [lup_here _ _ _ e, lup_here _ _ _ e, ih']
    · rw [lup_step _ _ _ e, lup_step _ _ _ e, ih', h n (by omega) e]
theorem least_bd {n place : Nat} {f : Nat → Int} {lo hi : Int} (h0 : lo ≤ 0) (h1 : 0 ≤ hi) (h : ∀ k, k < n → k ≠ place → lo ≤ f k ∧ f k ≤ hi) : lo ≤ leastI n place f ∧ leastI n place f ≤ hi := by
  unfold leastI
  cases h2 : (lup place f n).2 with
  | false => rw [(lup_none place f n h2).1]; exact ⟨h0, h1⟩
  | true =>
    obtain ⟨⟨k, hk, hne, e⟩, _⟩ := lup_some place f n h2
    rw [← e]
    exact h k hk hne
theorem lup_bd {n place : Nat} {f : Nat → Int} {lo hi : Int} (h0 : lo ≤ 0) (h1 : 0 ≤ hi) (h : ∀ k, k < n → k ≠ place → lo ≤ f k ∧ f k ≤ hi) : lo ≤ (lup place f n).1 ∧ (lup place f n).1 ≤ hi := least_bd h0 h1 h
theorem least_le {n place k : Nat} {f : Nat → Int} (hk : k < n) (hne : k ≠ place) : leastI n place f ≤ f k := (lup_some place f n (lup_has hk hne)).2 k hk hne
theorem least_at {n place k : Nat} {f : Nat → Int} (hk : k < n) (hne : k ≠ place) : ∃ j, j < n ∧ j ≠ place ∧ f j = leastI n place f := (lup_some place f n (lup_has hk hne)).1
theorem least_none {n place : Nat} {f : Nat → Int} (h : ∀ k, k < n → k = place) : leastI n place f = 0 := by
  unfold leastI
  cases h2 : (lup place f n).2 with
  | false => exact (lup_none place f n h2).1
  | true =>
    obtain ⟨⟨k, hk, hne, _⟩, _⟩ := lup_some place f n h2
    exact absurd (h k hk) hne

/-- Distances so small that nothing wraps. -/
def ArcBd (D : List (List Int)) : Prop := ∀ a b : Int, 0 ≤ arcI D a b ∧ arcI D a b ≤ 60
theorem arcBd_of {N : Nat} {D : List (List Int)} (h : GoodRows N D) (hD : D.length = N + 1) : ArcBd D := by
  intro a b
  unfold arcI
  split
  · by_cases h1 : a.toNat < D.length
    · obtain ⟨h2, h3⟩ := h a.toNat h1
      by_cases h4 : b.toNat ≤ N
      · have := h3 b.toNat h4; omega
      · rw [nth_ge (by omega)]; omega
    · rw [nthL_ge (by omega), nth_ge (by simp)]; omega
  · omega

/-! ### prices that fit -/
def inI (D : List (List Int)) (n : Nat) (l : List Int) (b : Nat) : Int := clipI (nth l b) 0 (leastI n b (fun a => arcI D a b))
def inL (D : List (List Int)) (n : Nat) (l : List Int) : List Int := (List.range n).map (inI D n l)
def outI (D : List (List Int)) (n : Nat) (q : List Int) (a : Nat) : Int := leastI n a (fun b => arcI D a b - nth q b)
def outL (D : List (List Int)) (n : Nat) (q : List Int) : List Int := (List.range n).map (outI D n q)
theorem inL_len (D : List (List Int)) (n : Nat) (l : List Int) : (inL D n l).length = n := by simp [inL]
theorem outL_len (D : List (List Int)) (n : Nat) (l : List Int) : (outL D n l).length = n := by simp [outL]
theorem nth_inL (D : List (List Int)) (n : Nat) (l : List Int) (b : Nat) (h : b < n) : nth (inL D n l) b = inI D n l b := nth_map_range _ _ _ h
theorem nth_outL (D : List (List Int)) (n : Nat) (q : List Int) (a : Nat) (h : a < n) : nth (outL D n q) a = outI D n q a := nth_map_range _ _ _ h
theorem inI_bd {D : List (List Int)} (hD : ArcBd D) (n : Nat) (l : List Int) (b : Nat) : 0 ≤ inI D n l b ∧ inI D n l b ≤ 60 := by
  have := least_bd (n := n) (place := b) (f := fun a => arcI D a b) (lo := 0) (hi := 60) (by omega) (by omega) (fun k _ _ => hD k b)
  unfold inI clipI
  omega
theorem inI_le {D : List (List Int)} (hD : ArcBd D) {n : Nat} (l : List Int) {a b : Nat} (ha : a < n) (hab : a ≠ b) : inI D n l b ≤ arcI D a b := by
  have := least_le (n := n) (place := b) (k := a) (f := fun a => arcI D a b) ha hab
  have h2 := hD a b
  (try simp only at this)
  unfold inI clipI
  omega
theorem nth_in_bd {D : List (List Int)} (hD : ArcBd D) (n : Nat) (l : List Int) (b : Nat) : 0 ≤ nth (inL D n l) b ∧ nth (inL D n l) b ≤ 60 := by
  by_cases h : b < n
  · rw [nth_inL _ _ _ _ h]; exact inI_bd hD n l b
  · rw [nth_ge (by rw [inL_len]; omega)]; omega
theorem out_bd {D : List (List Int)} (hD : ArcBd D) (n : Nat) (l : List Int) (a : Nat) : 0 ≤ outI D n (inL D n l) a ∧ outI D n (inL D n l) a ≤ 60 ∨ (n ≤ a) := by
  by_cases h : a < n
  · left
    refine least_bd (by omega) (by omega) (fun b hb hne => ?_)
    have h1 := hD a b
    have h2 := inI_bd hD n l b
    have h3 := inI_le hD l h (Ne.symm hne)
    rw [nth_inL _ _ _ _ hb]
    omega
  · right; omega
theorem nth_out_bd {D : List (List Int)} (hD : ArcBd D) (n : Nat) (l : List Int) (a : Nat) : 0 ≤ nth (outL D n (inL D n l)) a ∧ nth (outL D n (inL D n l)) a ≤ 60 := by
  by_cases h : a < n
  · rw [nth_outL _ _ _ _ h]
    rcases out_bd hD n l a with h' | h'
    · exact h'
    · omega
  · rw [nth_ge (by rw [outL_len]; omega)]; omega

/-! ### whether prices may be -/
def mayP (D : List (List Int)) (n : Nat) (o i : List Int) : Prop :=
  o.length = n ∧ i.length = n ∧ (∀ a, a < n → 0 ≤ nth o a ∧ nth o a ≤ 2147483648 ∧ 0 ≤ nth i a ∧ nth i a ≤ 2147483648) ∧ ∀ a, a < n → ∀ b, b < n → a ≠ b → nth o a + nth i b ≤ arcI D a b
instance (D : List (List Int)) (n : Nat) (o i : List Int) : Decidable (mayP D n o i) := by unfold mayP; infer_instance
def mayB (D : List (List Int)) (n : Nat) (o i : List Int) : Bool := decide (mayP D n o i)
def mayE (D : List (List Int)) (n : Nat) (o i : List Int) : Int := if mayB D n o i = true then 0 else 16
theorem may_fit {D : List (List Int)} (hD : ArcBd D) (n : Nat) (l : List Int) : mayP D n (outL D n (inL D n l)) (inL D n l) := by
  refine ⟨outL_len _ _ _, inL_len _ _ _, fun a ha => ?_, fun a ha b hb hab => ?_⟩
  · have h1 := nth_out_bd hD n l a
    have h2 := nth_in_bd hD n l a
    omega
  · rw [nth_outL _ _ _ _ ha]
    have := least_le (n := n) (place := a) (k := b) (f := fun b => arcI D a b - nth (inL D n l) b) hb (Ne.symm hab)
    unfold outI
    (try simp only at this)
    omega
theorem may_zero {D : List (List Int)} (hD : ArcBd D) (n : Nat) : mayP D n (List.replicate n 0) (List.replicate n 0) := by
  have hz : ∀ a, nth (List.replicate n (0 : Int)) a = 0 := fun a => by
    by_cases h : a < n
    · rw [nth_lt (by simpa using h)]; simp
    · rw [nth_ge (by simp; omega)]
  refine ⟨by simp, by simp, fun a ha => by rw [hz]; omega, fun a ha b hb hab => ?_⟩
  rw [hz, hz]
  have := hD a b
  omega

/-- Prices that fit fit as they are. -/
theorem fit_same {D : List (List Int)} (hD : ArcBd D) (n : Nat) (l : List Int) : inL D n (inL D n l) = inL D n l := by
  apply ext_nth (by rw [inL_len, inL_len])
  intro k hk
  rw [inL_len] at hk
  rw [nth_inL _ _ _ _ hk, nth_inL _ _ _ _ hk]
  have h0 := least_bd (n := n) (place := k) (f := fun a => arcI D a k) (lo := 0) (hi := 60) (by omega) (by omega) (fun j _ _ => hD j k)
  unfold inI
  rw [nth_inL _ _ _ _ hk]
  unfold inI clipI
  omega

/-- The reference's least: v, or what is less. -/
def vup (b : Nat) (f : Nat → Int) (v : Int) : Nat → Int
  | 0 => v
  | k + 1 => if k ≠ b ∧ f k < vup b f v k then f k else vup b f v k
theorem vup_succ (b : Nat) (f : Nat → Int) (v : Int) (k : Nat) : vup b f v (k + 1) = if k ≠ b ∧ f k < vup b f v k then f k else vup b f v k := rfl
theorem vup_is (b : Nat) (f : Nat → Int) (v : Int) (n : Nat) : vup b f v n ≤ v ∧ (∀ k, k < n → k ≠ b → vup b f v n ≤ f k) ∧ (vup b f v n = v ∨ ∃ k, k < n ∧ k ≠ b ∧ vup b f v n = f k) := by
  induction n with
  | zero => exact ⟨Int.le_refl _, fun k hk => by omega, .inl rfl⟩
  | succ n ih =>
    obtain ⟨h1, h2, h3⟩ := ih
    rw [vup_succ]
    split
    · rename_i h
      refine ⟨by omega, fun k hk hne => ?_, .inr ⟨n, by omega, h.1, rfl⟩⟩
      rcases Nat.lt_succ_iff_lt_or_eq.1 hk with h' | rfl
      · have := h2 k h' hne; omega
      · omega
    · rename_i h
      refine ⟨h1, fun k hk hne => ?_, ?_⟩
      · rcases Nat.lt_succ_iff_lt_or_eq.1 hk with h' | rfl
        · exact h2 k h' hne
        · have : ¬ f k < vup b f v k := fun h' => h ⟨hne, h'⟩
          omega
      · rcases h3 with h3 | ⟨k, hk, hne, e⟩
        · exact .inl h3
        · exact .inr ⟨k, by omega, hne, e⟩
/-- What the reference begins with. -/
def vat (n : Nat) (x : Int) : Int := if n = 1 then 0 else max x 0
theorem vup_fit {D : List (List Int)} (hD : ArcBd D) {n b : Nat} (hb : b < n) (l : List Int) : vup b (fun a => arcI D a b) (vat n (nth l b)) n = inI D n l b := by
  obtain ⟨h1, h2, h3⟩ := vup_is b (fun a => arcI D a b) (vat n (nth l b)) n
  unfold inI clipI
  by_cases hn : n = 1
  · have h0 : leastI n b (fun a => arcI D a b) = 0 := least_none (fun k hk => by omega)
    rw [h0]
    unfold vat at *
    rw [if_pos hn] at *
    rcases h3 with h3 | ⟨k, hk, hne, e⟩
    · rw [h3]; omega
    · omega
  · have hk : ∃ k, k < n ∧ k ≠ b := by
      by_cases h : b = 0
      · exact ⟨1, by omega, by omega⟩
      · exact ⟨0, by omega, by omega⟩
    obtain ⟨k, hk, hne⟩ := hk
    obtain ⟨j, hj, hjne, e⟩ := least_at (f := fun a : Nat => arcI D a b) hk hne
    have h4 := h2 j hj hjne
    have h5 := hD j b
    (try simp only at e h4)
    unfold vat at *
    rw [if_neg hn] at *
    rcases h3 with h3 | ⟨k', hk', hne', e'⟩
    · omega
    · have := least_le (f := fun a : Nat => arcI D a b) hk' hne'
      (try simp only at this e')
      omega
end

section
open Go.RowKit
set_option linter.unusedVariables false
set_option maxRecDepth 100000
attribute [local go_sem ↓] Go.wp_at_zero Go.wp_at_succ

theorem places_is (i0 i1 i2 i3 : Int) (cv dv : Value) (L : List Cu) (n : Nat) (w : World) (h : Custs w cv L) (hn : L.length + 1 = n) (hn2 : n ≤ 4096) :
    Calls Tryz.prog 76 #[.agg #[.int .i64 i0, .int .i64 i1, .int .i64 i2, .int .i64 i3, cv, dv]] w fun e w' => e = .returned (.int .i64 n) ∧ Below w.heap.size w w' := by
  obtain ⟨w1, ew, hb1, hsz1, hi⟩ := box_inst w (.int .i64 i0) (.int .i64 i1) (.int .i64 i2) (.int .i64 i3) cv dv
  obtain ⟨a, m, c, rfl, hm, _, _⟩ := h.open
  have Hew := Lib.hid ew
  have c4 := hi.c4
  have hm2 : m ≤ 4096 := by omega
  have Hn : Hid ((n : Int) = (m : Int) + 1) := Lib.hid (by omega)
  clear ew hm hi hsz1 h hn hn2
  go_enter Tryz.func76, Tryz.ntmps76
  go_upto_region 1 with (fail)
  rw [Hew.out]
  go_wp2_with fail
  go_ret
  rw [Hn.out]
  exact ⟨rfl, hb1⟩

/-- The reader of an instance lies in block g. -/
structure IsReader (w : World) (g : Nat) (f0 f1 f2 f3 cv dv iv : Value) : Prop where
  c0 : w.cell? ⟨g, 0, none⟩ = some f0
  c1 : w.cell? ⟨g, 1, none⟩ = some f1
  c2 : w.cell? ⟨g, 2, none⟩ = some f2
  c3 : w.cell? ⟨g, 3, none⟩ = some f3
  c4 : w.cell? ⟨g, 4, none⟩ = some cv
  c5 : w.cell? ⟨g, 5, none⟩ = some dv
  c6 : w.cell? ⟨g, 6, none⟩ = some iv
theorem IsReader.kept {w w' : World} {g : Nat} {f0 f1 f2 f3 cv dv iv : Value} {row : Option Nat} (h : IsReader w g f0 f1 f2 f3 cv dv iv) (hg : w.grownBy w' row) (hne : some g ≠ row) : IsReader w' g f0 f1 f2 f3 cv dv iv :=
  ⟨hg.cell h.c0 hne, hg.cell h.c1 hne, hg.cell h.c2 hne, hg.cell h.c3 hne, hg.cell h.c4 hne, hg.cell h.c5 hne, hg.cell h.c6 hne⟩
theorem IsReader.below {w w' : World} {g : Nat} {f0 f1 f2 f3 cv dv iv : Value} (h : IsReader w g f0 f1 f2 f3 cv dv iv) (hb : Below w.heap.size w w') : IsReader w' g f0 f1 f2 f3 cv dv iv := h.kept (row := none) (grownBy_below hb) (by simp)
theorem box_reader (w : World) (f0 f1 f2 f3 cv dv iv : Value) :
    ∃ w1, w.alloc (.cells #[f0, f1, f2, f3, cv, dv, iv] 132) = w1 ∧ Below w.heap.size w w1 ∧ w1.heap.size = w.heap.size + 1 ∧ IsReader w1 w.heap.size f0 f1 f2 f3 cv dv iv :=
  ⟨_, rfl, (Below.refl _ _).alloc (Nat.le_refl _) _, by simp, ⟨by simp [go_sem], by simp [go_sem], by simp [go_sem], by simp [go_sem], by simp [go_sem], by simp [go_sem], by simp [go_sem]⟩⟩
theorem IsReader.lt {w : World} {g : Nat} {f0 f1 f2 f3 cv dv iv : Value} (h : IsReader w g f0 f1 f2 f3 cv dv iv) : g < w.heap.size := World.block_lt_of_cell? w _ h.c0

set_option maxHeartbeats 800000 in
theorem come_is (gr : Nat) (i0 i1 i2 i3 : Int) (cv dv iv : Value) (D : List (List Int)) (b a : Int) (w : World) (hr : IsReader w gr (.int .i64 i0) (.int .i64 i1) (.int .i64 i2) (.int .i64 i3) cv dv iv) (hd : Grid w dv D) :
    Calls Tryz.prog 97 #[.pointer (some ⟨gr, 0, none⟩), .int .i64 b, .int .i64 a] w fun e w' => e = .returned (.int .i64 (arcI D a b)) ∧ Below w.heap.size w w' := by
  obtain ⟨c0, c1, c2, c3, c4, c5, c6⟩ := hr
  have H := Lib.hid (arc_is i0 i1 i2 i3 cv dv D a b w hd)
  clear hd
  go_enter Tryz.func97, Tryz.ntmps97
  go_wp2_with fail
  refine H.out.mono ?_
  rintro e w1 ⟨rfl, hb1⟩
  go_wp2_with fail
  go_ret
  exact ⟨rfl, hb1⟩

set_option maxHeartbeats 1600000 in
theorem leave_is (gr : Nat) (i0 i1 i2 i3 : Int) (cv dv iv : Value) (D : List (List Int)) (q : List Int) (a b : Nat) (w : World) (hr : IsReader w gr (.int .i64 i0) (.int .i64 i1) (.int .i64 i2) (.int .i64 i3) cv dv iv) (hd : Grid w dv D) (hq : Ints w iv q) (hb : b < q.length)
    (hD : ArcBd D) (hqb : ∀ k, 0 ≤ nth q k ∧ nth q k ≤ 1000000) :
    Calls Tryz.prog 98 #[.pointer (some ⟨gr, 0, none⟩), .int .i64 a, .int .i64 b] w fun e w' => e = .returned (.int .i64 (arcI D a b - nth q b)) ∧ Below w.heap.size w w' := by
  obtain ⟨c0, c1, c2, c3, c4, c5, c6⟩ := hr
  obtain ⟨ia, m, ic, rfl, hm, hmm, hcell⟩ := hq.open
  obtain ⟨ib, io, rfl, hc⟩ := hcell b (by omega)
  have hbd := hD a b
  have hqd := hqb b
  obtain ⟨hx1, hx2⟩ := hbd
  obtain ⟨hy1, hy2⟩ := hqd
  have hi0 : (0 : Int) ≤ (b : Int) := by omega
  have hi1 : (b : Int) < (m : Int) := by omega
  have Harc := Lib.hid (fun (w' : World) (h : Below w.heap.size w w') => arc_is i0 i1 i2 i3 cv dv D a b w' (hd.below h))
  generalize arcI D a b = X at *
  generalize nth q b = Y at *
  have hb0 := Below.refl w.heap.size w
  have hwr : IntKind.i64.wrap (X - Y) = X - Y := IntWalk.i64_in _ (by omega)
  clear hcell hm hq hd hb hD hqb
  go_enter Tryz.func98, Tryz.ntmps98
  go_wp2_with fail
  go_region_held3 (fun w' => w'.cell? ⟨gr, 0, none⟩ = some (.int .i64 i0) ∧ w'.cell? ⟨gr, 1, none⟩ = some (.int .i64 i1) ∧ w'.cell? ⟨gr, 2, none⟩ = some (.int .i64 i2) ∧ w'.cell? ⟨gr, 3, none⟩ = some (.int .i64 i3) ∧ w'.cell? ⟨gr, 4, none⟩ = some cv ∧ w'.cell? ⟨gr, 5, none⟩ = some dv ∧
      w'.cell? ⟨gr, 6, none⟩ = some (.slice (some ⟨ib, io, none⟩) m ic) ∧ w'.cell? ⟨ib, io + b, none⟩ = some (.int .i64 Y))
    (first | go_keep | exact ⟨cell_below (by assumption) c0, cell_below (by assumption) c1, cell_below (by assumption) c2, cell_below (by assumption) c3, cell_below (by assumption) c4, cell_below (by assumption) c5, cell_below (by assumption) c6, cell_below (by assumption) hc⟩)
    (first | (go_at_call 64; refine (Harc.out _ ?_).mono ?_; (first | exact hb0 | exact belDrew w); rintro e w5 ⟨rfl, hb5⟩; (first | have b5 := bel2 (belDrew w) hb5 | have b5 := bel2 hb0 hb5)))
  all_goals
    go_wp2_with fail
    go_ret
    exact ⟨rfl, by first | exact b5 | exact b5.drew⟩

set_option maxRecDepth 100000 in
set_option maxHeartbeats 1600000 in
theorem leastCome_is (gr n p : Nat) (f : Nat → Int) (w : World) (hf : ∀ (w' : World) (k : Nat), Below w.heap.size w w' → k < n → k ≠ p → Calls Tryz.prog 97 #[.pointer (some ⟨gr, 0, none⟩), .int .i64 p, .int .i64 k] w' fun e w'' => e = .returned (.int .i64 (f k)) ∧ Below w'.heap.size w' w'')
    (hn : n ≤ 4096) :
    Calls Tryz.prog 96 #[.int .i64 n, .int .i64 p, .func (.func 97) #[.pointer (some ⟨gr, 0, none⟩)] #[]] w fun e w' => e = .returned (.int .i64 (leastI n p f)) ∧ Below w.heap.size w w' := by
  have Hf := Lib.hid hf
  clear hf
  go_enter Tryz.func96, Tryz.ntmps96
  go_wp2_with fail
  go_loopw [7, 8, 9, 10, 12] (fun b fd o wv i wr => ∃ (k : Nat) (x y : Value) (B : Int) (F : Bool), i = .int .i64 k ∧ x = o ∧ y = wv ∧ k ≤ n ∧ b = .int .i64 B ∧ fd = .bool F ∧ (B, F) = lup p f k ∧ Below w.heap.size w wr) (fun _ _ _ _ i _ => n - (intOf i).toNat)
  case atStart => exact ⟨0, _, _, 0, false, rfl, rfl, rfl, Nat.zero_le _, rfl, rfl, rfl, Below.refl _ _⟩
  case round =>
    obtain ⟨k, x, y, B, F, rfl, rfl, rfl, hk, rfl, rfl, hbf, hb⟩ := hrel
    by_cases hlt : k < n
    · have hi1 : (k : Int) < (n : Int) := by omega
      by_cases hkp : k = p
      · have Hs := Lib.hid (lup_here p f k hkp)
        subst hkp
        have Hbf := Lib.hid hbf
        have h1 : ((k : Int) == (k : Int)) = true := by simp
        clear hbf
        go_wp2_with fail
        go_roundw
        case rel => exact ⟨k + 1, _, _, B, F, by go_num, rfl, rfl, by omega, rfl, rfl, by rw [Hs.out]; exact Hbf.out, hb⟩
        case measure => simp [intOf]; omega
      · have hst := lup_step p f k hkp
        rw [← hbf] at hst
        have Hst := Lib.hid hst
        have Hc := Lib.hid (Hf.out wr k hb hlt hkp)
        have h1 : ((k : Int) == (p : Int)) = false := by simp; omega
        generalize f k = Y at *
        clear hbf hst hkp
        go_wp2_with fail
        refine Hc.out.mono ?_
        rintro e w2 ⟨rfl, hb2⟩
        have hb3 := hb.trans (hb2.mono hb.size)
        clear hb hb2
        cases F with
        | false =>
          have h2 := Hst.out
          rw [if_pos (.inl rfl)] at h2
          have H2 := Lib.hid h2
          clear h2
          go_wp2_with fail
          go_roundw
          case rel => exact ⟨k + 1, _, _, Y, true, by go_num, rfl, rfl, by omega, rfl, rfl, H2.out.symm, hb3⟩
          case measure => simp [intOf]; omega
        | true =>
          by_cases hY : Y < B
          · have h2 := Hst.out
            rw [if_pos (.inr hY)] at h2
            have H2 := Lib.hid h2
            have h3 : decide (Y < B) = true := by simpa using hY
            clear h2 hY
            go_wp2_with fail
            go_roundw
            case rel => exact ⟨k + 1, _, _, Y, true, by go_num, rfl, rfl, by omega, rfl, rfl, H2.out.symm, hb3⟩
            case measure => simp [intOf]; omega
          · have h2 := Hst.out
            rw [if_neg (by simp; omega)] at h2
            have H2 := Lib.hid h2
            have h3 : decide (Y < B) = false := by simpa using hY
            clear h2 hY
            go_wp2_with fail
            go_roundw
            case rel => exact ⟨k + 1, _, _, B, true, by go_num, rfl, rfl, by omega, rfl, rfl, H2.out.symm, hb3⟩
            case measure => simp [intOf]; omega
    · have hkn : k = n := by omega
      subst hkn
      have Hr : Hid (leastI k p f = B) := Lib.hid (by unfold leastI; rw [← hbf])
      clear hbf
      go_wp2_with fail
      go_ret
      rw [Hr.out]
      exact ⟨rfl, hb⟩

set_option maxRecDepth 100000 in
set_option maxHeartbeats 1600000 in
theorem leastLeave_is (gr n p : Nat) (f : Nat → Int) (w : World) (hf : ∀ (w' : World) (k : Nat), Below w.heap.size w w' → k < n → k ≠ p → Calls Tryz.prog 98 #[.pointer (some ⟨gr, 0, none⟩), .int .i64 p, .int .i64 k] w' fun e w'' => e = .returned (.int .i64 (f k)) ∧ Below w'.heap.size w' w'')
    (hn : n ≤ 4096) :
    Calls Tryz.prog 96 #[.int .i64 n, .int .i64 p, .func (.func 98) #[.pointer (some ⟨gr, 0, none⟩)] #[]] w fun e w' => e = .returned (.int .i64 (leastI n p f)) ∧ Below w.heap.size w w' := by
  have Hf := Lib.hid hf
  clear hf
  go_enter Tryz.func96, Tryz.ntmps96
  go_wp2_with fail
  go_loopw [7, 8, 9, 10, 12] (fun b fd o wv i wr => ∃ (k : Nat) (x y : Value) (B : Int) (F : Bool), i = .int .i64 k ∧ x = o ∧ y = wv ∧ k ≤ n ∧ b = .int .i64 B ∧ fd = .bool F ∧ (B, F) = lup p f k ∧ Below w.heap.size w wr) (fun _ _ _ _ i _ => n - (intOf i).toNat)
  case atStart => exact ⟨0, _, _, 0, false, rfl, rfl, rfl, Nat.zero_le _, rfl, rfl, rfl, Below.refl _ _⟩
  case round =>
    obtain ⟨k, x, y, B, F, rfl, rfl, rfl, hk, rfl, rfl, hbf, hb⟩ := hrel
    by_cases hlt : k < n
    · have hi1 : (k : Int) < (n : Int) := by omega
      by_cases hkp : k = p
      · have Hs := Lib.hid (lup_here p f k hkp)
        subst hkp
        have Hbf := Lib.hid hbf
        have h1 : ((k : Int) == (k : Int)) = true := by simp
        clear hbf
        go_wp2_with fail
        go_roundw
        case rel => exact ⟨k + 1, _, _, B, F, by go_num, rfl, rfl, by omega, rfl, rfl, by rw [Hs.out]; exact Hbf.out, hb⟩
        case measure => simp [intOf]; omega
      · have hst := lup_step p f k hkp
        rw [← hbf] at hst
        have Hst := Lib.hid hst
        have Hc := Lib.hid (Hf.out wr k hb hlt hkp)
        have h1 : ((k : Int) == (p : Int)) = false := by simp; omega
        generalize f k = Y at *
        clear hbf hst hkp
        go_wp2_with fail
        refine Hc.out.mono ?_
        rintro e w2 ⟨rfl, hb2⟩
        have hb3 := hb.trans (hb2.mono hb.size)
        clear hb hb2
        cases F with
        | false =>
          have h2 := Hst.out
          rw [if_pos (.inl rfl)] at h2
          have H2 := Lib.hid h2
          clear h2
          go_wp2_with fail
          go_roundw
          case rel => exact ⟨k + 1, _, _, Y, true, by go_num, rfl, rfl, by omega, rfl, rfl, H2.out.symm, hb3⟩
          case measure => simp [intOf]; omega
        | true =>
          by_cases hY : Y < B
          · have h2 := Hst.out
            rw [if_pos (.inr hY)] at h2
            have H2 := Lib.hid h2
            have h3 : decide (Y < B) = true := by simpa using hY
            clear h2 hY
            go_wp2_with fail
            go_roundw
            case rel => exact ⟨k + 1, _, _, Y, true, by go_num, rfl, rfl, by omega, rfl, rfl, H2.out.symm, hb3⟩
            case measure => simp [intOf]; omega
          · have h2 := Hst.out
            rw [if_neg (by simp; omega)] at h2
            have H2 := Lib.hid h2
            have h3 : decide (Y < B) = false := by simpa using hY
            clear h2 hY
            go_wp2_with fail
            go_roundw
            case rel => exact ⟨k + 1, _, _, B, true, by go_num, rfl, rfl, by omega, rfl, rfl, H2.out.symm, hb3⟩
            case measure => simp [intOf]; omega
    · have hkn : k = n := by omega
      subst hkn
      have Hr : Hid (leastI k p f = B) := Lib.hid (by unfold leastI; rw [← hbf])
      clear hbf
      go_wp2_with fail
      go_ret
      rw [Hr.out]
      exact ⟨rfl, hb⟩

theorem own_made_new (W : World) (N : Nat) (T : TypeId) (hT : T = 3) (hN : N ≤ 65536) : Own (W.alloc (.cells (madeCells #[.int .i64 0] N) T)) W.heap.size (.slice (some ⟨W.heap.size, 0, none⟩) N N) (List.replicate N 0) := by
  subst hT
  unfold Own
  refine ⟨by simp, .inr ⟨W.heap.size, N, madeCells #[.int .i64 0] N, by rw [List.length_replicate], Nat.le_refl _, by simp only [World.alloc]; exact Array.getElem?_push_size, Nat.le_of_eq List.length_replicate, by simp only [maxLen]; omega, ?_, ?_⟩⟩
  · have := congrArg List.length (toList_madeCells_one (.int .i64 0) N)
    simpa using this
  · rw [toList_madeCells_one]
    simp [List.take_replicate]

theorem set2_size (w : World) (g : Nat) (u0 u1 : Value) : ((w.setCell ⟨g, 0, none⟩ u0).setCell ⟨g, 1, none⟩ u1).heap.size = w.heap.size := by simp [World.setCell]
theorem zero_own {C : World} {S : Nat} (hS : C.heap.size = S) (n : Nat) (hn : n ≤ 4096) :
    OwnP ((C.alloc (.cells (madeCells #[.int .i64 0] n) 3)).alloc (.cells (madeCells #[.int .i64 0] n) 3)).drew S (.slice (some ⟨S, 0, none⟩) n n) (.slice (some ⟨S + 1, 0, none⟩) n n) (List.replicate n 0) (List.replicate n 0) ∧
    OwnP ((C.alloc (.cells (madeCells #[.int .i64 0] n) 3)).alloc (.cells (madeCells #[.int .i64 0] n) 3)).drew S (.slice (some ⟨S + 1, 0, none⟩) n n) (.slice (some ⟨S, 0, none⟩) n n) (List.replicate n 0) (List.replicate n 0) := by
  subst hS
  have h1 := own_made_new C n _ rfl (by omega)
  have h2 := own_made_new (C.alloc (.cells (madeCells #[.int .i64 0] n) 3)) n _ rfl (by omega)
  have hs : (C.alloc (.cells (madeCells #[.int .i64 0] n) 3)).heap.size = C.heap.size + 1 := by simp
  rw [hs] at h2
  have a1 := (h1.below (belAlloc _ (.cells (madeCells #[.int .i64 0] n) 3))).below (belDrew _)
  have a2 := (h2.below (belDrew _)).mono (Nat.le_succ _)
  exact ⟨⟨a1, a2, fun k hk e => by simp [Value.ownBlock] at hk e; omega⟩, ⟨a2, a1, fun k hk e => by simp [Value.ownBlock] at hk e; omega⟩⟩

set_option maxRecDepth 100000 in
set_option maxHeartbeats 1600000 in
theorem zero_is (i0 i1 i2 i3 : Int) (cv dv : Value) (L : List Cu) (n : Nat) (w : World) (h : Custs w cv L) (hn : L.length + 1 = n) (hn2 : n ≤ 4096) :
    Calls Tryz.prog 95 #[.agg #[.int .i64 i0, .int .i64 i1, .int .i64 i2, .int .i64 i3, cv, dv]] w (PriceOut w (List.replicate n 0) (List.replicate n 0)) := by
  obtain ⟨w1, ew, hb1, hsz1, hi⟩ := box_inst w (.int .i64 i0) (.int .i64 i1) (.int .i64 i2) (.int .i64 i3) cv dv
  obtain ⟨w2, ew2⟩ : ∃ w2, w1.alloc (.cells #[.slice none 0 0, .slice none 0 0] 29) = w2 := ⟨_, rfl⟩
  have hb2 : Below w1.heap.size w1 w2 := by rw [← ew2]; exact belAlloc _ _
  have hsz2 : w2.heap.size = w.heap.size + 1 + 1 := by rw [← ew2]; simp; omega
  have hlz : Lies w2 (w.heap.size + 1) [.slice none 0 0, .slice none 0 0] := by rw [← ew2, ← hsz1]; exact Lies.new w1 [_, _] _
  have hfz : ∀ j, w2.frozen? ⟨w.heap.size + 1, j, none⟩ = false := fun j => by rw [← ew2, ← hsz1]; simp [go_sem]
  have hi := hi.below hb2
  obtain ⟨c0, c1, c2, c3, c4, c5⟩ := hi
  have Hpl := Lib.hid (places_is i0 i1 i2 i3 cv dv L n w2 ((h.below hb1).below hb2) hn hn2)
  have Hb := Lib.hid (bel2 hb1 hb2)
  have Hew := Lib.hid ew
  have Hew2 := Lib.hid ew2
  have Hlz := Lib.hid hlz
  have Hfz := Lib.hid hfz
  have Hsz := Lib.hid hsz2
  have hn3 : (n : Int) ≤ 4096 := by omega
  have Hn := Lib.hid hn2
  clear ew ew2 hb1 hb2 hsz1 hsz2 hlz hfz hn h hn2
  go_enter Tryz.func95, Tryz.ntmps95
  go_upto_region 1 with (fail)
  rw [Hew.out, Hew2.out]
  go_wp2_with fail
  refine Hpl.out.mono ?_
  rintro e w3 ⟨rfl, hb3⟩
  have hl3 : w.heap.size + 1 < w3.heap.size := by have := hb3.size; have := Hsz.out; omega
  have hl0 : w.heap.size < w3.heap.size := by omega
  have HL3 := Lib.hid (Hlz.out.below hb3)
  have z0 := HL3.out.at 0 _ rfl
  have z1 := HL3.out.at 1 _ rfl
  have f0 := frozen_below hb3 (by have := Hsz.out; omega) (Hfz.out 0)
  have f1 := frozen_below hb3 (by have := Hsz.out; omega) (Hfz.out 1)
  have Hb3 := Lib.hid (bel2 Hb.out hb3)
  have hmk : ∀ W : World, (Instr.makeSlice 26 (.int .i64 (n : Int)) (.int .i64 (n : Int))).run Tryz.prog W = .ok (.slice (some ⟨W.heap.size, 0, none⟩) n n) (W.alloc (.cells (madeCells #[.int .i64 0] n) 3)) := fun W =>
    run_make_row' 26 3 (.int .i64 0) 8 Tryz.underlying26 info_int rfl .i64 .i64 n (by have := Hn.out; omega) (by have := Hn.out; omega) W
  generalize eg : w.heap.size = g at *
  have Heg := Lib.hid eg
  have Hb3' : Hid (Below g w w3) := Lib.hid Hb3.out
  clear hb3 c0 c1 c2 c3 c4 c5 eg
  go_wp2_with fail
  go_region
  · go_wp2_with fail
    have q := set2 HL3.out (.slice (some ⟨w3.heap.size, 0, none⟩) n n) (.slice (some ⟨w3.heap.size + 1, 0, none⟩) n n)
    have q0 := q.at 0 _ rfl
    have q1 := q.at 1 _ rfl
    refine bodyPost_ret (v := .agg #[.slice (some ⟨w3.heap.size, 0, none⟩) n n, .slice (some ⟨w3.heap.size + 1, 0, none⟩) n n]) (by simp [results, Tryz.results95, go_sem, q0, q1, hl3, hl0]) rfl ⟨_, _, rfl, ?_, ?_⟩
    · exact (zero_own (set2_size w3 (g + 1) _ _) n Hn.out).1.mono (by rw [Heg.out]; omega)
    · rw [Heg.out]; exact Below.drew (((Hb3'.out.trans (below2 w3 (g + 1) _ _ (by omega))).alloc (by rw [set2_size]; omega) _).alloc (by simp; omega) _)
  · go_wp2_with fail
    have q := set2 HL3.out (.slice (some ⟨w3.heap.size + 1, 0, none⟩) n n) (.slice (some ⟨w3.heap.size, 0, none⟩) n n)
    have q0 := q.at 0 _ rfl
    have q1 := q.at 1 _ rfl
    refine bodyPost_ret (v := .agg #[.slice (some ⟨w3.heap.size + 1, 0, none⟩) n n, .slice (some ⟨w3.heap.size, 0, none⟩) n n]) (by simp [results, Tryz.results95, go_sem, q0, q1, hl3, hl0]) rfl ⟨_, _, rfl, ?_, ?_⟩
    · exact (zero_own (set2_size w3 (g + 1) _ _) n Hn.out).2.mono (by rw [Heg.out]; omega)
    · rw [Heg.out]; exact Below.drew (((Hb3'.out.trans (below2 w3 (g + 1) _ _ (by omega))).alloc (by rw [set2_size]; omega) _).alloc (by simp; omega) _)
end

section
open Go.RowKit
set_option linter.unusedVariables false
set_option maxRecDepth 100000
attribute [local go_sem ↓] Go.wp_at_zero Go.wp_at_succ

/-- Numbers, the first k of which are turned. -/
def turnL (n : Nat) (f g : Nat → Int) (k : Nat) : List Int := (List.range n).map fun j => if j < k then f j else g j
theorem turnL_len (n : Nat) (f g : Nat → Int) (k : Nat) : (turnL n f g k).length = n := by simp [turnL]
theorem nth_turnL (n : Nat) (f g : Nat → Int) (k j : Nat) (h : j < n) : nth (turnL n f g k) j = if j < k then f j else g j := nth_map_range _ _ _ h
theorem turnL_zero (n : Nat) (f g : Nat → Int) (xs : List Int) (hl : xs.length = n) (hg : ∀ j, j < n → nth xs j = g j) : xs = turnL n f g 0 := by
  apply ext_nth (by rw [turnL_len, hl])
  intro j hj
  rw [nth_turnL _ _ _ _ _ (by omega), if_neg (by omega), hg j (by omega)]
theorem turnL_all (n : Nat) (f g : Nat → Int) : turnL n f g n = (List.range n).map f := by
  unfold turnL
  apply List.map_congr_left
  intro j hj
  rw [if_pos (by simpa using hj)]
theorem turnL_set (n : Nat) (f g : Nat → Int) (k : Nat) (h : k < n) : (turnL n f g k).set k (f k) = turnL n f g (k + 1) := by
  apply ext_nth (by rw [List.length_set, turnL_len, turnL_len])
  intro j hj
  rw [List.length_set, turnL_len] at hj
  rw [nth_set (by rw [turnL_len]; exact h), nth_turnL _ _ _ _ _ hj, nth_turnL _ _ _ _ _ hj]
  by_cases e : k = j
  · subst e; rw [if_pos rfl, if_pos (by omega)]
  · rw [if_neg e]
    by_cases h1 : j < k
    · rw [if_pos h1, if_pos (by omega)]
    · rw [if_neg h1, if_neg (by omega)]

/-- A block of two cells that may be written. -/
structure Blk2 (w : World) (t : Nat) (u0 u1 : Value) : Prop where
  lies : Lies w t [u0, u1]
  f0 : w.frozen? ⟨t, 0, none⟩ = false
  f1 : w.frozen? ⟨t, 1, none⟩ = false
theorem Blk2.new (w : World) (u0 u1 : Value) (T : TypeId) : Blk2 (w.alloc (.cells #[u0, u1] T)) w.heap.size u0 u1 := ⟨Lies.new w [u0, u1] T, by simp [go_sem], by simp [go_sem]⟩
theorem Blk2.lt {w : World} {t : Nat} {u0 u1 : Value} (h : Blk2 w t u0 u1) : t < w.heap.size := h.lies.lt
theorem Blk2.below {w w' : World} {t : Nat} {u0 u1 : Value} (h : Blk2 w t u0 u1) (hb : Below w.heap.size w w') : Blk2 w' t u0 u1 := ⟨h.lies.below hb, frozen_below hb h.lt h.f0, frozen_below hb h.lt h.f1⟩
theorem Blk2.drew {w : World} {t : Nat} {u0 u1 : Value} (h : Blk2 w t u0 u1) : Blk2 w.drew t u0 u1 := h.below (belDrew w)
theorem Blk2.kept {w w' : World} {t : Nat} {u0 u1 : Value} {r : Option Nat} (h : Blk2 w t u0 u1) (hg : w.grownBy w' r) (hne : some t ≠ r) : Blk2 w' t u0 u1 := ⟨h.lies.kept hg hne, frozen_grown hg h.lt hne h.f0, frozen_grown hg h.lt hne h.f1⟩
theorem Blk2.cells {w : World} {t : Nat} {u0 u1 : Value} (h : Blk2 w t u0 u1) : w.cell? ⟨t, 0, none⟩ = some u0 ∧ w.cell? ⟨t, 1, none⟩ = some u1 ∧ w.frozen? ⟨t, 0, none⟩ = false ∧ w.frozen? ⟨t, 1, none⟩ = false := ⟨h.lies.at 0 _ rfl, h.lies.at 1 _ rfl, h.f0, h.f1⟩
theorem Blk2.set {w : World} {t : Nat} {u0 u1 : Value} (h : Blk2 w t u0 u1) (v0 v1 : Value) : Blk2 ((w.setCell ⟨t, 0, none⟩ v0).setCell ⟨t, 1, none⟩ v1) t v0 v1 :=
  ⟨set2 h.lies v0 v1, by rw [World.frozen?_setCell, World.frozen?_setCell]; exact h.f0, by rw [World.frozen?_setCell, World.frozen?_setCell]; exact h.f1⟩

theorem six_below {W w1 : World} (hb : Below W.heap.size W w1) {g : Nat} {u0 u1 u2 u3 u4 u5 : Value} (h : W.cell? ⟨g, 0, none⟩ = some u0 ∧ W.cell? ⟨g, 1, none⟩ = some u1 ∧ W.cell? ⟨g, 2, none⟩ = some u2 ∧ W.cell? ⟨g, 3, none⟩ = some u3 ∧ W.cell? ⟨g, 4, none⟩ = some u4 ∧ W.cell? ⟨g, 5, none⟩ = some u5) :
    w1.cell? ⟨g, 0, none⟩ = some u0 ∧ w1.cell? ⟨g, 1, none⟩ = some u1 ∧ w1.cell? ⟨g, 2, none⟩ = some u2 ∧ w1.cell? ⟨g, 3, none⟩ = some u3 ∧ w1.cell? ⟨g, 4, none⟩ = some u4 ∧ w1.cell? ⟨g, 5, none⟩ = some u5 :=
  ⟨cell_below hb h.1, cell_below hb h.2.1, cell_below hb h.2.2.1, cell_below hb h.2.2.2.1, cell_below hb h.2.2.2.2.1, cell_below hb h.2.2.2.2.2⟩

/-- Prices stand in block t, in a block of the call's own; their numbers elsewhere. -/
structure FitSt (B : Nat) (w2 : World) (t : Nat) (ov iv : Value) (O I : List Int) (w : World) : Prop where
  ge : B ≤ t
  blk : Blk2 w t ov iv
  own : OwnP w B ov iv O I
  ne0 : ov.ownBlock ≠ some t
  ne1 : iv.ownBlock ≠ some t
  below : Below B w2 w
theorem FitSt.drew {B : Nat} {w2 : World} {t : Nat} {ov iv : Value} {O I : List Int} {w : World} (h : FitSt B w2 t ov iv O I w) : FitSt B w2 t ov iv O I w.drew := ⟨h.ge, h.blk.drew, h.own.below (belDrew w), h.ne0, h.ne1, h.below.drew⟩
theorem FitSt.below' {B : Nat} {w2 : World} {t : Nat} {ov iv : Value} {O I : List Int} {w w' : World} (h : FitSt B w2 t ov iv O I w) (hB : B ≤ w.heap.size) (hb : Below w.heap.size w w') : FitSt B w2 t ov iv O I w' := ⟨h.ge, h.blk.below hb, h.own.below hb, h.ne0, h.ne1, h.below.trans (hb.mono hB)⟩
theorem fitSt_alloc {B : Nat} {w2 w6 : World} {ov iv : Value} {O I : List Int} (hB : B ≤ w6.heap.size) (h : OwnP w6 B ov iv O I) (hb2 : Below B w2 w6) (T : TypeId) : FitSt B w2 w6.heap.size ov iv O I (w6.alloc (.cells #[ov, iv] T)) :=
  ⟨hB, Blk2.new _ _ _ _, h.below (belAlloc _ _), fun e => by have := (h.1.lt _ e).2; omega, fun e => by have := (h.2.1.lt _ e).2; omega, hb2.alloc hB _⟩
theorem own_ne {w w' : World} {B t : Nat} {v : Value} {X : List Int} (h : Own w B v X) (hg : w.grownBy w' (some t)) (hne : v.ownBlock ≠ some t) : Own w' B v X := h.kept hg (.inr hne)
theorem fitSt_store {B t : Nat} {w2 w6 : World} {ov iv u0 u1 : Value} {O I : List Int} (h : OwnP w6 B ov iv O I) (hb2 : Below B w2 w6) (ht : B ≤ t) (hblk : Blk2 w6 t u0 u1) (n0 : ov.ownBlock ≠ some t) (n1 : iv.ownBlock ≠ some t) : FitSt B w2 t ov iv O I ((w6.setCell ⟨t, 0, none⟩ ov).setCell ⟨t, 1, none⟩ iv) :=
  ⟨ht, hblk.set _ _, ⟨own_ne h.1 (grown2 w6 t ov iv) n0, own_ne h.2.1 (grown2 w6 t ov iv) n1, h.2.2⟩, n0, n1, hb2.trans (below2 w6 t ov iv ht)⟩
theorem ownP_low {w : World} {B t : Nat} {ov iv : Value} {O I : List Int} (h : OwnP w B ov iv O I) (ht : t < B) : ov.ownBlock ≠ some t ∧ iv.ownBlock ≠ some t := ⟨fun e => by have := (h.1.lt _ e).1; omega, fun e => by have := (h.2.1.lt _ e).1; omega⟩
theorem ownP_high {w : World} {B t : Nat} {ov iv : Value} {O I : List Int} (h : OwnP w B ov iv O I) (ht : w.heap.size ≤ t) : ov.ownBlock ≠ some t ∧ iv.ownBlock ≠ some t := ⟨fun e => by have := (h.1.lt _ e).2; omega, fun e => by have := (h.2.1.lt _ e).2; omega⟩

set_option maxRecDepth 100000 in
set_option maxHeartbeats 6400000 in
theorem fit_is (i0 i1 i2 i3 : Int) (cv dv lv : Value) (L : List Cu) (D : List (List Int)) (l : List Int) (n : Nat) (w : World) (hC : Custs w cv L) (hG : Grid w dv D) (hI : Ints w lv l) (hn : L.length + 1 = n) (hn2 : n ≤ 4096) (hl : l.length = n) (hD : ArcBd D) :
    Calls Tryz.prog 77 #[.agg #[.int .i64 i0, .int .i64 i1, .int .i64 i2, .int .i64 i3, cv, dv], lv] w (PriceOut w (outL D n (inL D n l)) (inL D n l)) := by
  obtain ⟨w1, ew, hb1, hsz1, hi⟩ := box_inst w (.int .i64 i0) (.int .i64 i1) (.int .i64 i2) (.int .i64 i3) cv dv
  obtain ⟨w2, ew2⟩ : ∃ w2, w1.alloc (.cells #[.slice none 0 0, .slice none 0 0] 29) = w2 := ⟨_, rfl⟩
  have hb2 : Below w1.heap.size w1 w2 := by rw [← ew2]; exact belAlloc _ _
  have hsz2 : w2.heap.size = w.heap.size + 1 + 1 := by rw [← ew2]; simp; omega
  have hlz : Blk2 w2 (w.heap.size + 1) (.slice none 0 0) (.slice none 0 0) := by rw [← ew2, ← hsz1]; exact Blk2.new _ _ _ _
  have hi := hi.below hb2
  obtain ⟨c0, c1, c2, c3, c4, c5⟩ := hi
  have Hpl := Lib.hid (fun (W : World) (h : Below w2.heap.size w2 W) => places_is i0 i1 i2 i3 cv dv L n W (((hC.below hb1).below hb2).below h) hn hn2)
  have Hze := Lib.hid (fun (W : World) (h : Below w2.heap.size w2 W) => zero_is i0 i1 i2 i3 cv dv L n W (((hC.below hb1).below hb2).below h) hn hn2)
  have Hb := Lib.hid (bel2 hb1 hb2)
  have HG := Lib.hid ((hG.below hb1).below hb2)
  have HI := Lib.hid ((hI.below hb1).below hb2)
  have Hew := Lib.hid ew
  have Hew2 := Lib.hid ew2
  have Hlz := Lib.hid hlz
  have l1 : w.heap.size < w2.heap.size := by omega
  have l2 : w.heap.size + 1 < w2.heap.size := by omega
  have hnp : 0 < n := by omega
  have Hl := Lib.hid hl
  have Hn2 := Lib.hid hn2
  have hn3 : (n : Int) ≤ 4096 := by omega
  clear ew ew2 hb1 hb2 hsz1 hsz2 hlz hn hC hG hI hl hn2
  go_enter Tryz.func77, Tryz.ntmps77
  go_upto_region 1 with (fail)
  rw [Hew.out, Hew2.out]
  generalize eg : w.heap.size = g at *
  have Heg := Lib.hid eg
  clear eg
  have Hbg : Hid (Below g w w2) := Lib.hid Hb.out
  have b0 := Below.refl w2.heap.size w2
  go_cut [5, 6] (fun s5 s6 wx => ∃ (t : Nat) (ov iv : Value), s5 = .pointer (some ⟨t, 0, none⟩) ∧ s6 = .int .i64 n ∧ FitSt w2.heap.size w2 t ov iv (List.replicate n 0) (List.replicate n 0) wx)
  case first =>
    go_region_held3 (fun w' => w'.cell? ⟨g, 0, none⟩ = some (.int .i64 i0) ∧ w'.cell? ⟨g, 1, none⟩ = some (.int .i64 i1) ∧ w'.cell? ⟨g, 2, none⟩ = some (.int .i64 i2) ∧ w'.cell? ⟨g, 3, none⟩ = some (.int .i64 i3) ∧ w'.cell? ⟨g, 4, none⟩ = some cv ∧ w'.cell? ⟨g, 5, none⟩ = some dv)
      (first | go_keep | exact six_below b5 ⟨c0, c1, c2, c3, c4, c5⟩ | exact six_below b6 ⟨c0, c1, c2, c3, c4, c5⟩ | exact six_below (b5.alloc b5.size _) ⟨c0, c1, c2, c3, c4, c5⟩ | exact six_below (b6.alloc b6.size _) ⟨c0, c1, c2, c3, c4, c5⟩ | exact six_below e8.below ⟨c0, c1, c2, c3, c4, c5⟩ | exact six_below e8a.below ⟨c0, c1, c2, c3, c4, c5⟩ | exact six_below e7.below ⟨c0, c1, c2, c3, c4, c5⟩ | exact six_below (fitSt_store hP6 b6 (by first | exact Nat.le_refl _ | exact b5.size) e9 n9.1 n9.2).below ⟨c0, c1, c2, c3, c4, c5⟩ | exact six_below (b6.drew) ⟨c0, c1, c2, c3, c4, c5⟩ | exact six_below (b5.drew) ⟨c0, c1, c2, c3, c4, c5⟩)
      (first
        | (go_at_call 95; refine (Hze.out _ ?_).mono ?_; (first | exact b0 | exact belDrew w2 | exact bel2 (belDrew w2) (belAlloc _ _) | exact bel2 (belAlloc w2 _) (belDrew _)); rintro e w5 ⟨ov, iv, rfl, hP5, hb5⟩; obtain ⟨go, co, gi, ci, rfl, rfl⟩ := hP5.form List.length_replicate List.length_replicate hnp; (first | have b5 := bel2 b0 hb5 | have b5 := bel2 (belDrew w2) hb5 | have b5 := bel2 (bel2 (belDrew w2) (belAlloc _ _)) hb5 | have b5 := bel2 (bel2 (belAlloc w2 _) (belDrew _)) hb5); have hQ5 := hP5.mono (show w2.heap.size ≤ _ by first | exact Nat.le_refl _ | (simp; done) | (simp; omega)); have e8a := fitSt_alloc b5.size hQ5 b5 29;
            (first | (have e9 := (Blk2.new w2 _ _ _).drew.below hb5; have n9 := ownP_low (t := w2.heap.size) hP5 (by simp); have e8 := fitSt_store hQ5 b5 (Nat.le_refl _) e9 n9.1 n9.2; obtain ⟨x0, x1, x2, x3⟩ := e9.cells; have x4 := e9.lt) | skip))
        | (go_at_call 76; refine (Hpl.out _ ?_).mono ?_; (first | exact b5 | exact bel2 b5 (belAlloc _ _) | exact bel2 b5 (belDrew _) | exact e8.below | exact e8a.below); rintro e w6 ⟨rfl, hb6⟩; (first | have b6 := bel2 b5 hb6 | have b6 := bel2 (bel2 b5 (belAlloc _ _)) hb6 | have b6 := bel2 (bel2 b5 (belDrew _)) hb6 | have b6 := e8.below.trans (hb6.mono e8.below.size) | have b6 := e8a.below.trans (hb6.mono e8a.below.size)); (first | have e7 := e8.below' e8.below.size hb6 | have e7 := e8a.below' e8a.below.size hb6 | skip);
            (first | have hP6 := hQ5.below hb6 | have hP6 := (hQ5.below (belAlloc _ _)).below hb6 | have hP6 := (hQ5.below (belDrew _)).below hb6 | skip); (first | (have e9 := e9.below hb6; obtain ⟨y0, y1, y2, y3⟩ := e9.cells; have y4 := e9.lt) | (have n9 := ownP_high (t := w5.heap.size) hP5 (Nat.le_refl _); have e9 := (Blk2.new w5 _ _ _).below hb6; obtain ⟨y0, y1, y2, y3⟩ := e9.cells; have y4 := e9.lt) | skip)))
    all_goals
      go_wp2_with fail
      go_meet
      first
        | exact ⟨_, _, _, rfl, rfl, e7⟩
        | exact ⟨_, _, _, rfl, rfl, e7.drew⟩
        | exact ⟨_, _, _, rfl, rfl, fitSt_alloc b6.size hP6 b6 _⟩
        | exact ⟨_, _, _, rfl, rfl, (fitSt_alloc b6.size hP6 b6 _).drew⟩
        | exact ⟨_, _, _, rfl, rfl, fitSt_store hP6 b6 (by first | exact Nat.le_refl _ | exact b5.size) e9 n9.1 n9.2⟩
        | exact ⟨_, _, _, rfl, rfl, (fitSt_store hP6 b6 (by first | exact Nat.le_refl _ | exact b5.size) e9 n9.1 n9.2).drew⟩
  case rest =>
    obtain ⟨tb, ov, iv, rfl, rfl, hs⟩ := hcut
    obtain ⟨w6, rfl⟩ : ∃ w6 : World, w6 = wc := ⟨_, rfl⟩
    obtain ⟨go, co, gi, ci, rfl, rfl⟩ := hs.own.form List.length_replicate List.length_replicate hnp
    obtain ⟨t0, t1, _, _⟩ := hs.blk.cells
    have hge := hs.ge
    have ltb := hs.blk.lt
    have hgi := hs.own.2.1.lt gi rfl
    have hgo := hs.own.1.lt go rfl
    have hn0 : ¬ go = tb := fun e => hs.ne0 (by simp [Value.ownBlock, e])
    have hn1 : ¬ gi = tb := fun e => hs.ne1 (by simp [Value.ownBlock, e])
    have hn2 : ¬ gi = go := fun e => hs.own.2.2 go rfl (by simp [Value.ownBlock, e])
    obtain ⟨hgi1, hgi2⟩ := hgi
    obtain ⟨hgo1, hgo2⟩ := hgo
    have HO6 := Lib.hid hs.own.1
    have HI6 := Lib.hid hs.own.2.1
    have Hb6 := Lib.hid hs.below
    have HIl := Lib.hid (HI.out.below hs.below)
    clear hs
    go_wp2_with (with_reducible refine wpList_copyInts rfl (.tmp 15) (.tmp 16) rfl w6 w2.heap.size gi n ci (List.replicate n 0) l lv rfl rfl HI6.out HIl.out Hl.out hnp ?_)
    intro w7 hown7 hg7
    have g0 := hg7.cell (cell_lt Hb6.out l1 c0) (by simp; omega)
    have g1 := hg7.cell (cell_lt Hb6.out l1 c1) (by simp; omega)
    have g2 := hg7.cell (cell_lt Hb6.out l1 c2) (by simp; omega)
    have g3 := hg7.cell (cell_lt Hb6.out l1 c3) (by simp; omega)
    have g4 := hg7.cell (cell_lt Hb6.out l1 c4) (by simp; omega)
    have g5 := hg7.cell (cell_lt Hb6.out l1 c5) (by simp; omega)
    have t07 := hg7.cell t0 (by simp; omega)
    have t17 := hg7.cell t1 (by simp; omega)
    have hs7 := hg7.size
    have HO7 := Lib.hid (own_ne HO6.out hg7 (by simp [Value.ownBlock]; omega))
    have HI7 := Lib.hid hown7
    have Hb7 := Lib.hid (Hb6.out.grown hg7 (by omega) (by intro k hk; simp at hk; omega))
    obtain ⟨w8, ew8, hb8, hsz8, hrd⟩ := box_reader w7 (.int .i64 i0) (.int .i64 i1) (.int .i64 i2) (.int .i64 i3) cv dv (.slice (some ⟨gi, 0, none⟩) n ci)
    have Hew8 := Lib.hid ew8
    have t08 := cell_below hb8 t07
    have t18 := cell_below hb8 t17
    have HO8 := Lib.hid (HO7.out.below hb8)
    have HI8 := Lib.hid (HI7.out.below hb8)
    have Hb8 := Lib.hid (Hb7.out.trans (hb8.mono (by omega)))
    have Hrd := Lib.hid hrd
    have hgr : gi < w7.heap.size := by omega
    have hgr2 : go < w7.heap.size := by omega
    have hgr3 : tb < w7.heap.size := by omega
    have hgr4 : w2.heap.size ≤ w8.heap.size := by omega
    have Hk : Hid (l = turnL n (inI D n l) (nth l) 0) := Lib.hid (turnL_zero n _ _ l Hl.out (fun _ _ => rfl))
    clear hown7 hg7 ew8 hb8 hrd t0 t1 c0 c1 c2 c3 c4 c5
    go_upto_region 4 with (fail)
    rw [Hew8.out]
    generalize w7.heap.size = gr at *
    clear g0 g1 g2 g3 g4 g5 t07 t17
    go_wp2_with fail
    go_loopw [8, 24] (fun b i wr => ∃ (k : Nat) (u : Value), i = .int .i64 k ∧ u = b ∧ k ≤ n ∧ Own wr w2.heap.size (.slice (some ⟨gi, 0, none⟩) n ci) (turnL n (inI D n l) (nth l) k) ∧ w8.grownBy wr (some gi)) (fun _ i _ => n - (intOf i).toNat)
    case atStart => exact ⟨0, _, rfl, rfl, Nat.zero_le _, by rw [← Hk.out]; exact HI8.out, ⟨rfl, rfl, rfl, Nat.le_refl _, fun _ _ _ => rfl⟩⟩
    case round =>
      obtain ⟨k, u, rfl, rfl, hk, hown, hg⟩ := hrel
      have t0r := hg.cell t08 (by simp; omega)
      have t1r := hg.cell t18 (by simp; omega)
      have hsr := hg.size
      have hrr := Lib.hid (Hrd.out.kept hg (by simp; omega))
      have hbr := Hb8.out.grown hg hgr4 (by intro k hk; simp at hk; omega)
      have Hbr := Lib.hid hbr
      have HGr := Lib.hid (HG.out.below hbr)
      have HOr := Lib.hid (own_ne HO8.out hg (by simp [Value.ownBlock]; omega))
      have Hg := Lib.hid hg
      by_cases hlt : k < n
      · obtain ⟨g9, c9, hv9, _, _, _, hcell⟩ := hown.out (by rw [turnL_len]; exact hnp)
        simp only [Value.slice.injEq, Option.some.injEq, Addr.mk.injEq, and_true] at hv9
        obtain ⟨rfl, hv1, hv2⟩ := hv9
        obtain ⟨f0, f1⟩ := hcell k (by rw [turnL_len]; exact hlt)
        rw [Nat.zero_add] at f0 f1
        rw [nth_turnL _ _ _ _ _ hlt, if_neg (Nat.lt_irrefl k)] at f0
        have Hle := Lib.hid (fun (W : World) (h : Below wr.heap.size wr W) => leastCome_is gr n k (fun a => arcI D a k) W (fun w' j hb' hj hne => come_is gr i0 i1 i2 i3 cv dv _ D k j w' (hrr.out.below (bel2 h hb')) (HGr.out.below (bel2 h hb'))) Hn2.out)
        have Hset := Lib.hid (turnL_set n (inI D n l) (nth l) k hlt)
        have Hv : Hid (inI D n l k = clipI (nth l k) 0 (leastI n k (fun a => arcI D a k))) := Lib.hid rfl
        have Hown := Lib.hid hown
        generalize leastI n k (fun a => arcI D a k) = LV at *
        generalize nth l k = X at *
        have hi0 : (0 : Int) ≤ (k : Int) := by omega
        have hi1 : (k : Int) < (n : Int) := by omega
        have hgir : gi < wr.heap.size := by omega
        have b00 := Below.refl wr.heap.size wr
        clear hown hg hcell hv1 hv2 hbr
        go_wp2_with fail
        go_region_law (first
          | (refine step_wanted (by rfl) ?_; go_simp; go_at_call 96; refine (Hle.out _ ?_).mono ?_; (first | exact b00 | exact belDrew wr); rintro e w9 ⟨rfl, hb9⟩; (first | have b9 := bel2 b00 hb9 | have b9 := bel2 (belDrew wr) hb9); have t19 := cell_below b9 t1r; have f09 := cell_below b9 f0; have f19 := frozen_below b9 hgir f1)
          | (refine step_wanted (by rfl) ?_; go_simp; go_at_call 49; refine (clip_is _ _ _ _).mono ?_; rintro e w' ⟨rfl, rfl⟩))
        all_goals
          go_wp2_with fail
          go_roundw
          case rel =>
            have o9 := (Hown.out.below b9).set k (clipI X 0 LV) (by rw [turnL_len]; exact hlt)
            rw [Nat.zero_add, ← Hv.out, Hset.out, Hv.out] at o9
            exact ⟨k + 1, _, by go_num, rfl, by omega, (by first | exact o9 | exact o9.below (belDrew _)), (by first | exact grownBy_trans (grownBy_trans Hg.out (grownBy_below b9)) (grownBy_setCell w9 ⟨gi, k, none⟩ _) | exact grownBy_trans (grownBy_trans (grownBy_trans Hg.out (grownBy_below b9)) (grownBy_setCell w9 ⟨gi, k, none⟩ _)) (grownBy_below (belDrew _)))⟩
          case measure => simp [intOf]; omega
      · have hkn : k = n := by omega
        subst hkn
        rw [turnL_all] at hown
        have HIr := Lib.hid hown
        obtain ⟨wo, rfl⟩ : ∃ wo : World, wo = wr := ⟨_, rfl⟩
        have Hk2 : Hid (List.replicate k 0 = turnL k (outI D k (inL D k l)) (fun _ => 0) 0) := Lib.hid (turnL_zero k _ _ _ List.length_replicate (fun j hj => by rw [nth_lt (by simpa using hj)]; simp))
        have hs2 : w2.heap.size ≤ wo.heap.size := by omega
        clear hown hg hbr hlt hk
        go_wp2_with fail
        go_loopw [9, 44] (fun b i wr => ∃ (j : Nat) (u : Value), i = .int .i64 j ∧ u = b ∧ j ≤ k ∧ Own wr w2.heap.size (.slice (some ⟨go, 0, none⟩) k co) (turnL k (outI D k (inL D k l)) (fun _ => 0) j) ∧ wo.grownBy wr (some go)) (fun _ i _ => k - (intOf i).toNat)
        case atStart => exact ⟨0, _, rfl, rfl, Nat.zero_le _, by rw [← Hk2.out]; exact HOr.out, ⟨rfl, rfl, rfl, Nat.le_refl _, fun _ _ _ => rfl⟩⟩
        case round =>
          obtain ⟨j, u, rfl, rfl, hj, hown, hg⟩ := hrel
          have t0q := hg.cell t0r (by simp; omega)
          have t1q := hg.cell t1r (by simp; omega)
          have hsq := hg.size
          have hrq := Lib.hid (hrr.out.kept hg (by simp; omega))
          have Hbq := Lib.hid (Hbr.out.grown hg hs2 (by intro k hk; simp at hk; omega))
          have HGq := Lib.hid (HG.out.below Hbq.out)
          have HIq := Lib.hid (own_ne HIr.out hg (by simp [Value.ownBlock]; omega))
          have Hgq := Lib.hid hg
          by_cases hlt : j < k
          · obtain ⟨g9, c9, hv9, _, _, _, hcell⟩ := hown.out (by rw [turnL_len]; omega)
            simp only [Value.slice.injEq, Option.some.injEq, Addr.mk.injEq, and_true] at hv9
            obtain ⟨rfl, hv1, hv2⟩ := hv9
            obtain ⟨f0, f1⟩ := hcell j (by rw [turnL_len]; exact hlt)
            rw [Nat.zero_add] at f0 f1
            have Hle := Lib.hid (fun (W : World) (h : Below wr.heap.size wr W) => leastLeave_is gr k j (fun b => arcI D j b - nth (inL D k l) b) W (fun w' i hb' hi hne => leave_is gr i0 i1 i2 i3 cv dv _ D (inL D k l) j i w' (hrq.out.below (bel2 h hb')) (HGq.out.below (bel2 h hb')) (HIq.out.ints.below (bel2 h hb')) (by rw [inL_len]; exact hi) hD (fun i => by have := nth_in_bd hD k l i; omega)) Hn2.out)
            have Hset := Lib.hid (turnL_set k (outI D k (inL D k l)) (fun _ => 0) j hlt)
            have Hv : Hid (outI D k (inL D k l) j = leastI k j (fun b => arcI D j b - nth (inL D k l) b)) := Lib.hid rfl
            have Hown := Lib.hid hown
            generalize leastI k j (fun b => arcI D j b - nth (inL D k l) b) = LV at *
            have hi0 : (0 : Int) ≤ (j : Int) := by omega
            have hi1 : (j : Int) < (k : Int) := by omega
            have hgir : go < wr.heap.size := by omega
            have b00 := Below.refl wr.heap.size wr
            clear hown hg hcell hv1 hv2
            go_wp2_with fail
            go_region_law (first
              | (refine step_wanted (by rfl) ?_; go_simp; go_at_call 96; refine (Hle.out _ ?_).mono ?_; (first | exact b00 | exact belDrew wr); rintro e w9 ⟨rfl, hb9⟩; (first | have b9 := bel2 b00 hb9 | have b9 := bel2 (belDrew wr) hb9); have t09 := cell_below b9 t0q; have f09 := cell_below b9 f0; have f19 := frozen_below b9 hgir f1))
            all_goals
              go_wp2_with fail
              go_roundw
              case rel =>
                have o9 := (Hown.out.below b9).set j LV (by rw [turnL_len]; exact hlt)
                rw [Nat.zero_add, ← Hv.out, Hset.out, Hv.out] at o9
                exact ⟨j + 1, _, by go_num, rfl, by omega, (by first | exact o9 | exact o9.below (belDrew _)), (by first | exact grownBy_trans (grownBy_trans Hgq.out (grownBy_below b9)) (grownBy_setCell w9 ⟨go, j, none⟩ _) | exact grownBy_trans (grownBy_trans (grownBy_trans Hgq.out (grownBy_below b9)) (grownBy_setCell w9 ⟨go, j, none⟩ _)) (grownBy_below (belDrew _)))⟩
              case measure => simp [intOf]; omega
          · have hjk : j = k := by omega
            subst hjk
            rw [turnL_all] at hown
            have HOq := Lib.hid hown
            have hz := Hlz.out
            have hzl := (Hlz.out.lies.lower Hbq.out l2)
            have Hzl := Lib.hid hzl
            have z0 := hzl.at 0 _ rfl
            have z1 := hzl.at 1 _ rfl
            have z2 := frozen_lt Hbq.out l2 hz.f0
            have z3 := frozen_lt Hbq.out l2 hz.f1
            clear hown hg hz hzl hlt hj
            go_wp2_with fail
            have q := set2 Hzl.out (.slice (some ⟨go, 0, none⟩) j co) (.slice (some ⟨gi, 0, none⟩) j ci)
            have q0 := q.at 0 _ rfl
            have q1 := q.at 1 _ rfl
            have hP : OwnP wr w2.heap.size (.slice (some ⟨go, 0, none⟩) j co) (.slice (some ⟨gi, 0, none⟩) j ci) (outL D j (inL D j l)) (inL D j l) := ⟨HOq.out, HIq.out, fun x hx e => by simp [Value.ownBlock] at hx e; omega⟩
            refine bodyPost_ret (v := .agg #[.slice (some ⟨go, 0, none⟩) j co, .slice (some ⟨gi, 0, none⟩) j ci]) (by simp [results, Tryz.results77, go_sem, q0, q1]) rfl ⟨_, _, rfl, ?_, ?_⟩
            · rw [Heg.out]
              exact (hP.kept (grown2 wr (g + 1) _ _) (fun x hx => by cases hx; exact l2)).mono (by omega)
            · rw [Heg.out]
              exact Hbg.out.trans ((Hbq.out.mono (by omega)).trans (below2 wr (g + 1) _ _ (by omega)))
end

section
open Go.RowKit
set_option linter.unusedVariables false
set_option maxRecDepth 100000

theorem turnL_const (n : Nat) (c : Int) : (List.range n).map (fun _ => c) = List.replicate n c := by simp [List.map_const']

/-- A call's prices, stored in a result's block. -/
theorem price_store {B : Nat} {w w3 w4 : World} {t : Nat} {ov iv u0 u1 : Value} {O I : List Int} (hb : Below B w w3) (hP : OwnP w4 w3.heap.size ov iv O I) (hb4 : Below w3.heap.size w3 w4) (hz : Blk2 w3 t u0 u1) (ht : B ≤ t) :
    Blk2 w4 t u0 u1 ∧ OwnP ((w4.setCell ⟨t, 0, none⟩ ov).setCell ⟨t, 1, none⟩ iv) B ov iv O I ∧ Below B w ((w4.setCell ⟨t, 0, none⟩ ov).setCell ⟨t, 1, none⟩ iv) := by
  have hlt := hz.lt
  have hB : B ≤ w3.heap.size := by omega
  refine ⟨hz.below hb4, (hP.kept (grown2 w4 t ov iv) (fun k hk => by cases hk; exact hlt)).mono hB, ?_⟩
  exact (hb.trans (hb4.mono hB)).trans (below2 w4 t ov iv ht)

def firstL (n : Nat) : List Int := List.replicate n 2147483648

set_option maxRecDepth 100000 in
set_option maxHeartbeats 3200000 in
theorem first_is (i0 i1 i2 i3 : Int) (cv dv : Value) (L : List Cu) (D : List (List Int)) (n : Nat) (w : World) (hC : Custs w cv L) (hG : Grid w dv D) (hn : L.length + 1 = n) (hn2 : n ≤ 4096) (hD : ArcBd D) :
    Calls Tryz.prog 47 #[.agg #[.int .i64 i0, .int .i64 i1, .int .i64 i2, .int .i64 i3, cv, dv]] w (PriceOut w (outL D n (inL D n (firstL n))) (inL D n (firstL n))) := by
  obtain ⟨w1, ew, hb1, hsz1, hi⟩ := box_inst w (.int .i64 i0) (.int .i64 i1) (.int .i64 i2) (.int .i64 i3) cv dv
  obtain ⟨w2, ew2⟩ : ∃ w2, w1.alloc (.cells #[.slice none 0 0, .slice none 0 0] 29) = w2 := ⟨_, rfl⟩
  have hb2 : Below w1.heap.size w1 w2 := by rw [← ew2]; exact belAlloc _ _
  have hsz2 : w2.heap.size = w.heap.size + 1 + 1 := by rw [← ew2]; simp; omega
  have hlz : Blk2 w2 (w.heap.size + 1) (.slice none 0 0) (.slice none 0 0) := by rw [← ew2, ← hsz1]; exact Blk2.new _ _ _ _
  have hi := hi.below hb2
  obtain ⟨c0, c1, c2, c3, c4, c5⟩ := hi
  have Hpl := Lib.hid (fun (W : World) (h : Below w2.heap.size w2 W) => places_is i0 i1 i2 i3 cv dv L n W (((hC.below hb1).below hb2).below h) hn hn2)
  have Hfit := Lib.hid (fun (W : World) (h : Below w2.heap.size w2 W) (lv : Value) (hI : Ints W lv (firstL n)) => fit_is i0 i1 i2 i3 cv dv lv L D (firstL n) n W (((hC.below hb1).below hb2).below h) (((hG.below hb1).below hb2).below h) hI hn hn2 List.length_replicate hD)
  have Hb := Lib.hid (bel2 hb1 hb2)
  have Hew := Lib.hid ew
  have Hew2 := Lib.hid ew2
  have Hlz := Lib.hid hlz
  have l1 : w.heap.size < w2.heap.size := by omega
  have hnp : 0 < n := by omega
  have hn3 : (n : Int) ≤ 4096 := by omega
  have Hn2 := Lib.hid hn2
  clear ew ew2 hb1 hb2 hsz1 hsz2 hlz hn hC hG hn2
  go_enter Tryz.func47, Tryz.ntmps47
  go_upto_region 1 with (fail)
  rw [Hew.out, Hew2.out]
  generalize eg : w.heap.size = g at *
  have Heg := Lib.hid eg
  clear eg
  have Hbg : Hid (Below g w w2) := Lib.hid Hb.out
  go_wp2_with fail
  refine (Hpl.out _ (Below.refl _ _)).mono ?_
  rintro e w3 ⟨rfl, hb3⟩
  obtain ⟨w4, hmk, hown, hb4⟩ := made_ints w3 n (by have := Hn2.out; omega)
  have Hmk := Lib.hid hmk
  have hb34 := Lib.hid (bel2 hb3 hb4)
  have hsz : w2.heap.size ≤ w3.heap.size := hb3.size
  have hsz4 : w3.heap.size ≤ w4.heap.size := hb4.size
  have Hz4 := Lib.hid (Hlz.out.below (bel2 hb3 hb4))
  have d0 := cell_below (bel2 hb3 hb4) c0
  have d1 := cell_below (bel2 hb3 hb4) c1
  have d2 := cell_below (bel2 hb3 hb4) c2
  have d3 := cell_below (bel2 hb3 hb4) c3
  have d4 := cell_below (bel2 hb3 hb4) c4
  have d5 := cell_below (bel2 hb3 hb4) c5
  have Hk : Hid (List.replicate n 0 = turnL n (fun _ => 2147483648) (fun _ => 0) 0) := Lib.hid (turnL_zero n _ _ _ List.length_replicate (fun j hj => by rw [nth_lt (by simpa using hj)]; simp))
  have Hown := Lib.hid hown
  clear hmk hown hb3 hb4 c0 c1 c2 c3 c4 c5
  go_wp2_with fail
  rw [Hmk.out]
  generalize w3.heap.size = gn at *
  go_wp2_with fail
  go_loopw [4, 10] (fun b i wr => ∃ (k : Nat) (u : Value), i = .int .i64 k ∧ u = b ∧ k ≤ n ∧ Own wr gn (.slice (some ⟨gn, 0, none⟩) n n) (turnL n (fun _ => 2147483648) (fun _ => 0) k) ∧ w4.grownBy wr (some gn)) (fun _ i _ => n - (intOf i).toNat)
  case atStart => exact ⟨0, _, rfl, rfl, Nat.zero_le _, by rw [← Hk.out]; exact Hown.out, ⟨rfl, rfl, rfl, Nat.le_refl _, fun _ _ _ => rfl⟩⟩
  case round =>
    obtain ⟨k, u, rfl, rfl, hk, hown, hg⟩ := hrel
    by_cases hlt : k < n
    · obtain ⟨g9, c9, hv9, _, _, _, hcell⟩ := hown.out (by rw [turnL_len]; exact hnp)
      simp only [Value.slice.injEq, Option.some.injEq, Addr.mk.injEq, and_true] at hv9
      obtain ⟨rfl, hv1, hv2⟩ := hv9
      obtain ⟨f0, f1⟩ := hcell k (by rw [turnL_len]; exact hlt)
      rw [Nat.zero_add] at f0 f1
      have hset := hown.set k 2147483648 (by rw [turnL_len]; exact hlt)
      rw [Nat.zero_add, turnL_set n (fun _ => 2147483648) (fun _ => 0) k hlt] at hset
      have Hset := Lib.hid hset
      have hi0 : (0 : Int) ≤ (k : Int) := by omega
      have hi1 : (k : Int) < (n : Int) := by omega
      clear hcell hv1 hv2 hset hown
      go_wp2_with fail
      go_roundw
      case rel => exact ⟨k + 1, _, by go_num, rfl, by omega, Hset.out, grownBy_trans hg (grownBy_setCell wr ⟨gn, k, none⟩ _)⟩
      case measure => simp [intOf]; omega
    · have hkn : k = n := by omega
      subst hkn
      rw [turnL_all, turnL_const] at hown
      have hbr := hb34.out.grown hg (by omega) (by intro x hx; simp at hx; omega)
      have q0 := hg.cell d0 (by simp; omega)
      have q1 := hg.cell d1 (by simp; omega)
      have q2 := hg.cell d2 (by simp; omega)
      have q3 := hg.cell d3 (by simp; omega)
      have q4 := hg.cell d4 (by simp; omega)
      have q5 := hg.cell d5 (by simp; omega)
      have Hc := Lib.hid (Hfit.out wr hbr _ hown.ints)
      have Hbr := Lib.hid (Hbg.out.trans (hbr.mono (by omega)))
      have hlzr := Lib.hid (Hz4.out.kept hg (by have := Hlz.out.lt; simp; omega))
      have lz := hlzr.out.lt
      clear hown hg hbr d0 d1 d2 d3 d4 d5
      go_wp2_with fail
      refine Hc.out.mono ?_
      rintro e w5 ⟨ov, iv, rfl, hP, hb5⟩
      obtain ⟨go, co, gi, ci, rfl, rfl⟩ := hP.form (outL_len _ _ _) (inL_len _ _ _) hnp
      obtain ⟨s1, s2, s3⟩ := price_store Hbr.out hP hb5 hlzr.out (Nat.le_succ g)
      obtain ⟨z0, z1, z2, z3⟩ := s1.cells
      have q := s1.set (.slice (some ⟨go, 0, none⟩) k co) (.slice (some ⟨gi, 0, none⟩) k ci)
      obtain ⟨y0, y1, _, _⟩ := q.cells
      have S2 := Lib.hid s2
      have S3 := Lib.hid s3
      clear hb5 hP s1 s2 s3 q
      go_wp2_with fail
      refine bodyPost_ret (v := .agg #[.slice (some ⟨go, 0, none⟩) k co, .slice (some ⟨gi, 0, none⟩) k ci]) (by simp [results, Tryz.results47, go_sem, y0, y1]) rfl ⟨_, _, rfl, ?_, ?_⟩
      · rw [Heg.out]; exact S2.out
      · rw [Heg.out]; exact S3.out

/-- Numbers, one of which is lowered. -/
def lowerL (q : List Int) (place by_ : Int) : List Int := if 0 ≤ place ∧ place < (q.length : Int) then q.set place.toNat (nth q place.toNat - by_) else q
theorem lowerL_len (q : List Int) (place by_ : Int) : (lowerL q place by_).length = q.length := by unfold lowerL; split <;> simp

set_option maxRecDepth 100000 in
set_option maxHeartbeats 3200000 in
theorem lower_is (i0 i1 i2 i3 : Int) (cv dv ov0 iv0 : Value) (L : List Cu) (D : List (List Int)) (q : List Int) (n : Nat) (place by_ : Int) (w : World) (hC : Custs w cv L) (hG : Grid w dv D) (hI : Ints w iv0 q) (hn : L.length + 1 = n) (hn2 : n ≤ 4096) (hD : ArcBd D)
    (hq : q.length = n) (hqb : ∀ k, -1099511627776 ≤ nth q k ∧ nth q k ≤ 1099511627776) (hy0 : 0 ≤ by_) (hy1 : by_ ≤ 2147483648) :
    Calls Tryz.prog 51 #[.agg #[.int .i64 i0, .int .i64 i1, .int .i64 i2, .int .i64 i3, cv, dv], .agg #[ov0, iv0], .int .i64 place, .int .i64 by_] w (PriceOut w (outL D n (inL D n (lowerL q place by_))) (inL D n (lowerL q place by_))) := by
  obtain ⟨w1, ew, hb1, hsz1, hi⟩ := box_inst w (.int .i64 i0) (.int .i64 i1) (.int .i64 i2) (.int .i64 i3) cv dv
  obtain ⟨wp, ewp⟩ : ∃ wp, w1.alloc (.cells #[ov0, iv0] 29) = wp := ⟨_, rfl⟩
  have hbp : Below w1.heap.size w1 wp := by rw [← ewp]; exact belAlloc _ _
  have hszp : wp.heap.size = w.heap.size + 1 + 1 := by rw [← ewp]; simp; omega
  have hlp : Blk2 wp (w.heap.size + 1) ov0 iv0 := by rw [← ewp, ← hsz1]; exact Blk2.new _ _ _ _
  obtain ⟨w2, ew2⟩ : ∃ w2, wp.alloc (.cells #[.slice none 0 0, .slice none 0 0] 29) = w2 := ⟨_, rfl⟩
  have hb2 : Below wp.heap.size wp w2 := by rw [← ew2]; exact belAlloc _ _
  have hsz2 : w2.heap.size = w.heap.size + 1 + 1 + 1 := by rw [← ew2]; simp; omega
  have hlz : Blk2 w2 (w.heap.size + 1 + 1) (.slice none 0 0) (.slice none 0 0) := by rw [← ew2, ← hszp]; exact Blk2.new _ _ _ _
  have hbb := bel2 (bel2 hb1 hbp) hb2
  have hi := hi.below (bel2 hbp hb2)
  have hlp2 := hlp.below hb2
  obtain ⟨c0, c1, c2, c3, c4, c5⟩ := hi
  have cp := hlp2.cells.2.1
  have Hpl := Lib.hid (fun (W : World) (h : Below w2.heap.size w2 W) => places_is i0 i1 i2 i3 cv dv L n W ((hC.below hbb).below h) hn hn2)
  have Hfit := Lib.hid (fun (W : World) (h : Below w2.heap.size w2 W) (lv : Value) (hI : Ints W lv (lowerL q place by_)) => fit_is i0 i1 i2 i3 cv dv lv L D (lowerL q place by_) n W ((hC.below hbb).below h) ((hG.below hbb).below h) hI hn hn2 (by rw [lowerL_len]; exact hq) hD)
  have Hb := Lib.hid hbb
  have HI := Lib.hid (hI.below hbb)
  have Hew := Lib.hid ew
  have Hewp := Lib.hid ewp
  have Hew2 := Lib.hid ew2
  have Hlz := Lib.hid hlz
  have Hq := Lib.hid hq
  have Hqb := Lib.hid hqb
  have l1 : w.heap.size < w2.heap.size := by omega
  have l2 : w.heap.size + 1 < w2.heap.size := by omega
  have hnp : 0 < n := by omega
  have hn3 : (n : Int) ≤ 4096 := by omega
  have Hn2 := Lib.hid hn2
  clear ew ewp ew2 hb1 hbp hb2 hsz1 hszp hsz2 hlz hn hC hG hI hn2 hlp hlp2 hbb hq hqb
  go_enter Tryz.func51, Tryz.ntmps51
  go_upto_region 1 with (fail)
  rw [Hew.out, Hewp.out, Hew2.out]
  generalize eg : w.heap.size = g at *
  have Heg := Lib.hid eg
  clear eg
  have Hbg : Hid (Below g w w2) := Lib.hid Hb.out
  go_wp2_with fail
  refine (Hpl.out _ (Below.refl _ _)).mono ?_
  rintro e w3 ⟨rfl, hb3⟩
  obtain ⟨w4, hmk, hown, hb4⟩ := made_ints w3 n (by have := Hn2.out; omega)
  have Hmk := Lib.hid hmk
  have hb34 := Lib.hid (bel2 hb3 hb4)
  have hsz : w2.heap.size ≤ w3.heap.size := hb3.size
  have hsz4 : w3.heap.size < w4.heap.size := (hown.lt _ rfl).2
  have Hz4 := Lib.hid (Hlz.out.below (bel2 hb3 hb4))
  have d0 := cell_below (bel2 hb3 hb4) c0
  have d1 := cell_below (bel2 hb3 hb4) c1
  have d2 := cell_below (bel2 hb3 hb4) c2
  have d3 := cell_below (bel2 hb3 hb4) c3
  have d4 := cell_below (bel2 hb3 hb4) c4
  have d5 := cell_below (bel2 hb3 hb4) c5
  have dp := cell_below (bel2 hb3 hb4) cp
  have HI4 := Lib.hid (HI.out.below (bel2 hb3 hb4))
  have Hown := Lib.hid hown
  clear hmk hown hb3 hb4 c0 c1 c2 c3 c4 c5 cp
  go_wp2_with fail
  rw [Hmk.out]
  generalize w3.heap.size = gn at *
  go_wp2_with (with_reducible refine wpList_copyInts rfl (.tmp 13) (.tmp 15) rfl w4 gn gn n n (List.replicate n 0) q iv0 rfl rfl Hown.out HI4.out Hq.out hnp ?_)
  intro w5 hown5 hg5
  have hs5 := hg5.size
  have Hb5 := Lib.hid (hb34.out.grown hg5 (by omega) (by intro x hx; simp at hx; omega))
  have q0 := hg5.cell d0 (by simp; omega)
  have q1 := hg5.cell d1 (by simp; omega)
  have q2 := hg5.cell d2 (by simp; omega)
  have q3 := hg5.cell d3 (by simp; omega)
  have q4 := hg5.cell d4 (by simp; omega)
  have q5 := hg5.cell d5 (by simp; omega)
  have Hz5 := Lib.hid (Hz4.out.kept hg5 (by have := Hlz.out.lt; simp; omega))
  have Hown5 := Lib.hid hown5
  have lgn : gn < w5.heap.size := by omega
  clear hown5 hg5 d0 d1 d2 d3 d4 d5 dp
  by_cases hp : 0 ≤ place ∧ place < (n : Int)
  · obtain ⟨k, rfl⟩ := Int.eq_ofNat_of_zero_le hp.1
    have hkn : k < n := by omega
    obtain ⟨g9, c9, hv9, _, _, _, hcell⟩ := Hown5.out.out (by rw [Hq.out]; exact hnp)
    simp only [Value.slice.injEq, Option.some.injEq, Addr.mk.injEq, and_true] at hv9
    obtain ⟨rfl, hv1, hv2⟩ := hv9
    obtain ⟨f0, f1⟩ := hcell k (by rw [Hq.out]; exact hkn)
    rw [Nat.zero_add] at f0 f1
    have hlow : lowerL q (k : Int) by_ = q.set k (nth q k - by_) := by unfold lowerL; rw [if_pos (by rw [Hq.out]; omega), Int.toNat_natCast]
    have hset := Hown5.out.set k (nth q k - by_) (by rw [Hq.out]; exact hkn)
    rw [Nat.zero_add, ← hlow] at hset
    have Hset := Lib.hid hset
    have hqk := Hqb.out k
    obtain ⟨hqk1, hqk2⟩ := hqk
    generalize nth q k = X at *
    have hi0 : (0 : Int) ≤ (k : Int) := by omega
    have hi1 : (k : Int) < (n : Int) := by omega
    have b1 : decide ((k : Int) < 0) = false := by simp
    have b2 : decide (k < n) = true := by simpa using hkn
    have Hg6 := Lib.hid (grownBy_setCell w5 ⟨gn, k, none⟩ (.int .i64 (X - by_)))
    have hb6 := Hb5.out.setCell (p := ⟨gn, k, none⟩) (by exact hsz) (.int .i64 (X - by_))
    have Hc := Lib.hid (Hfit.out _ hb6 _ Hset.out.ints)
    have Hbr := Lib.hid (Hbg.out.trans (hb6.mono (by omega)))
    have hlzr := Lib.hid (Hz5.out.kept Hg6.out (by have := Hlz.out.lt; simp; omega))
    clear hcell hv1 hv2 hset hlow hp hb6
    go_wp2_with fail
    refine Hc.out.mono ?_
    rintro e w7 ⟨ov, iv, rfl, hP, hb7⟩
    obtain ⟨go, co, gi, ci, rfl, rfl⟩ := hP.form (outL_len _ _ _) (inL_len _ _ _) hnp
    obtain ⟨s1, s2, s3⟩ := price_store Hbr.out hP hb7 hlzr.out (by omega)
    obtain ⟨z0, z1, z2, z3⟩ := s1.cells
    have q := s1.set (.slice (some ⟨go, 0, none⟩) n co) (.slice (some ⟨gi, 0, none⟩) n ci)
    obtain ⟨y0, y1, _, _⟩ := q.cells
    have S2 := Lib.hid s2
    have S3 := Lib.hid s3
    clear hb7 hP s1 s2 s3 q
    go_wp2_with fail
    refine bodyPost_ret (v := .agg #[.slice (some ⟨go, 0, none⟩) n co, .slice (some ⟨gi, 0, none⟩) n ci]) (by simp [results, Tryz.results51, go_sem, y0, y1]) rfl ⟨_, _, rfl, ?_, ?_⟩
    · rw [Heg.out]; exact S2.out
    · rw [Heg.out]; exact S3.out
  · have hlow : lowerL q place by_ = q := by unfold lowerL; rw [if_neg (by rw [Hq.out]; exact hp)]
    have hi5 := Hown5.out.ints
    rw [← hlow] at hi5
    have Hc := Lib.hid (Hfit.out _ Hb5.out _ hi5)
    have Hbr := Lib.hid (Hbg.out.trans (Hb5.out.mono (by omega)))
    have hcase : (decide (0 ≤ place) = false) ∨ (decide (0 ≤ place) = true ∧ decide (place < (n : Int)) = false) := by
      by_cases q : 0 ≤ place
      · exact .inr ⟨by simpa using q, by simp; omega⟩
      · exact .inl (by simpa using q)
    clear hlow hi5 hp
    rcases hcase with b1 | ⟨b1, b2⟩
    all_goals
      go_wp2_with fail
      refine Hc.out.mono ?_
      rintro e w7 ⟨ov, iv, rfl, hP, hb7⟩
      obtain ⟨go, co, gi, ci, rfl, rfl⟩ := hP.form (outL_len _ _ _) (inL_len _ _ _) hnp
      obtain ⟨s1, s2, s3⟩ := price_store Hbr.out hP hb7 Hz5.out (by omega)
      obtain ⟨z0, z1, z2, z3⟩ := s1.cells
      have q := s1.set (.slice (some ⟨go, 0, none⟩) n co) (.slice (some ⟨gi, 0, none⟩) n ci)
      obtain ⟨y0, y1, _, _⟩ := q.cells
      have S2 := Lib.hid s2
      have S3 := Lib.hid s3
      clear hb7 hP s1 s2 s3 q
      go_wp2_with fail
      refine bodyPost_ret (v := .agg #[.slice (some ⟨go, 0, none⟩) n co, .slice (some ⟨gi, 0, none⟩) n ci]) (by simp [results, Tryz.results51, go_sem, y0, y1]) rfl ⟨_, _, rfl, ?_, ?_⟩
      · rw [Heg.out]; exact S2.out
      · rw [Heg.out]; exact S3.out
end

section
open Go.RowKit
set_option linter.unusedVariables false
set_option maxRecDepth 100000
attribute [local go_sem ↓] Go.wp_at_zero Go.wp_at_succ

def slackI (D : List (List Int)) (n : Nat) (o i : List Int) (a b : Int) : Int := if 0 ≤ a ∧ a < n ∧ 0 ≤ b ∧ b < n ∧ a ≠ b then arcI D a b - nth o a.toNat - nth i b.toNat else 0

theorem box_price (w : World) (ov iv : Value) : ∃ w1, w.alloc (.cells #[ov, iv] 29) = w1 ∧ Below w.heap.size w w1 ∧ w1.heap.size = w.heap.size + 1 ∧ w1.cell? ⟨w.heap.size, 0, none⟩ = some ov ∧ w1.cell? ⟨w.heap.size, 1, none⟩ = some iv :=
  ⟨_, rfl, belAlloc _ _, by simp, by simp [go_sem], by simp [go_sem]⟩
theorem eight_below {W w1 : World} (hb : Below W.heap.size W w1) {g t : Nat} {u0 u1 u2 u3 u4 u5 u6 u7 : Value} (h : W.cell? ⟨g, 0, none⟩ = some u0 ∧ W.cell? ⟨g, 1, none⟩ = some u1 ∧ W.cell? ⟨g, 2, none⟩ = some u2 ∧ W.cell? ⟨g, 3, none⟩ = some u3 ∧ W.cell? ⟨g, 4, none⟩ = some u4 ∧ W.cell? ⟨g, 5, none⟩ = some u5 ∧ W.cell? ⟨t, 0, none⟩ = some u6 ∧ W.cell? ⟨t, 1, none⟩ = some u7) :
    w1.cell? ⟨g, 0, none⟩ = some u0 ∧ w1.cell? ⟨g, 1, none⟩ = some u1 ∧ w1.cell? ⟨g, 2, none⟩ = some u2 ∧ w1.cell? ⟨g, 3, none⟩ = some u3 ∧ w1.cell? ⟨g, 4, none⟩ = some u4 ∧ w1.cell? ⟨g, 5, none⟩ = some u5 ∧ w1.cell? ⟨t, 0, none⟩ = some u6 ∧ w1.cell? ⟨t, 1, none⟩ = some u7 :=
  ⟨cell_below hb h.1, cell_below hb h.2.1, cell_below hb h.2.2.1, cell_below hb h.2.2.2.1, cell_below hb h.2.2.2.2.1, cell_below hb h.2.2.2.2.2.1, cell_below hb h.2.2.2.2.2.2.1, cell_below hb h.2.2.2.2.2.2.2⟩
end

section
open Go.RowKit
set_option linter.unusedVariables false
set_option maxRecDepth 100000

def numI (l : List Int) (k : Nat) : Int := (nth l k).tmod 1099511627776
def numsL (n : Nat) (l : List Int) : List Int := (List.range n).map (numI l)
theorem range_map_succ (f : Nat → Int) (k : Nat) : (List.range (k + 1)).map f = (List.range k).map f ++ [f k] := by rw [List.range_succ, List.map_append]; rfl
theorem numI_bd (l : List Int) (k : Nat) : -1099511627776 ≤ numI l k ∧ numI l k ≤ 1099511627776 := by
  unfold numI
  generalize nth l k = x
  have h1 := Int.natAbs_tmod x 1099511627776
  have h2 : x.natAbs % (1099511627776 : Int).natAbs < 1099511627776 := Nat.mod_lt _ (by decide)
  omega
theorem nums_bd (n : Nat) (l : List Int) (k : Nat) : -1099511627776 ≤ nth (numsL n l) k ∧ nth (numsL n l) k ≤ 1099511627776 := by
  unfold numsL
  by_cases h : k < n
  · rw [nth_map_range _ _ _ h]; exact numI_bd l k
  · rw [nth_ge (by simp; omega)]; omega
theorem nums_len (n : Nat) (l : List Int) : (numsL n l).length = n := by simp [numsL]

set_option maxRecDepth 100000 in
set_option maxHeartbeats 1600000 in
theorem numbers_is (i0 i1 i2 i3 : Int) (cv dv lv : Value) (L : List Cu) (l : List Int) (n : Nat) (w : World) (hC : Custs w cv L) (hI : Ints w lv l) (hn : L.length + 1 = n) (hn2 : n ≤ 4096) :
    Calls Tryz.prog 9 #[.agg #[.int .i64 i0, .int .i64 i1, .int .i64 i2, .int .i64 i3, cv, dv], lv] w fun e w' => ∃ v, e = .returned v ∧ Own w' w.heap.size v (numsL n l) ∧ Below w.heap.size w w' := by
  obtain ⟨w1, ew, hb1, hsz1, hx⟩ := box_inst w (.int .i64 i0) (.int .i64 i1) (.int .i64 i2) (.int .i64 i3) cv dv
  obtain ⟨ca, cm, cc, rfl, hcm, _, _⟩ := hC.open
  obtain ⟨la, lm, lc, rfl, hlm, _, hlc⟩ := (hI.below hb1).open
  have c4 := hx.c4
  have Hew := Lib.hid ew
  have Hlm := Lib.hid hlm
  have Hlc := Lib.hid hlc
  have hn' : n = cm + 1 := by omega
  have hcm2 : cm ≤ 4096 := by omega
  have hsz : w.heap.size ≤ w1.heap.size := hb1.size
  have l0 := World.block_lt_of_cell? w1 _ c4
  subst hn'
  clear ew hsz1 hx hC hI hlm hlc hcm hn hn2
  go_enter Tryz.func9, Tryz.ntmps9
  go_upto_region 1 with (fail)
  rw [Hew.out]
  go_wp2_with fail
  go_loopw [5, 6, 7] (fun v i u7 wr => ∃ (k : Nat) (x y : Value), i = .int .i64 k ∧ x = v ∧ y = u7 ∧ k ≤ cm + 1 ∧ Own wr w1.heap.size x ((List.range k).map (numI l)) ∧ Below w1.heap.size w1 wr) (fun _ i _ _ => cm + 1 - (intOf i).toNat)
  case atStart => exact ⟨0, _, _, rfl, rfl, rfl, Nat.zero_le _, Own.nil _ _, Below.refl _ _⟩
  case round =>
    obtain ⟨k, x, y, rfl, rfl, rfl, hk, hown, hb⟩ := hrel
    have c4r := cell_below hb c4
    have Hown := Lib.hid hown
    clear hown
    have hsz2 : w1.heap.size ≤ wr.heap.size := hb.size
    by_cases hlt : k ≤ cm
    · have Hst := Lib.hid (range_map_succ (numI l) k)
      have hi1 : (k : Int) ≤ (cm : Int) := by omega
      have hi0 : (0 : Int) ≤ (k : Int) := by omega
      by_cases hkl : k < lm
      · obtain ⟨ib, io, rfl, f0⟩ := Hlc.out k hkl
        have f0r := cell_below hb f0
        have hi2 : (k : Int) < (lm : Int) := by omega
        have hN : Hid (numI l k = (nth l k).tmod 1099511627776) := Lib.hid rfl
        have hNb := numI_bd l k
        rw [hN.out] at hNb
        rw [hN.out] at Hst
        generalize nth l k = X at *
        obtain ⟨V, hV⟩ : ∃ V, X.tmod 1099511627776 = V := ⟨_, rfl⟩
        rw [hV] at Hst
        clear f0 hNb
        go_wp2_with (at_builtin; refine wpList_push rfl _ _ rfl wr w1.heap.size x ((List.range k).map (numI l)) V rfl rfl Hown.out (by rw [List.length_map, List.length_range]; omega) hsz2 ?_)
        intro v' w5 hown5 g5 hb5
        rw [← Hst.out] at hown5
        have hb5' := hb.trans (hb5)
        clear g5 hb5 hb
        go_wp2_with fail
        go_roundw
        case rel => exact ⟨k + 1, _, _, by go_num, rfl, rfl, by omega, hown5, hb5'⟩
        case measure => simp [intOf]; omega
      · have hN : Hid (numI l k = 0) := Lib.hid (by unfold numI; rw [nth_ge (by rw [Hlm.out]; omega)]; rfl)
        rw [hN.out] at Hst
        have hkl' : decide (k < lm) = false := by simpa using hkl
        go_wp2_with (at_builtin; refine wpList_push rfl _ _ rfl wr w1.heap.size x ((List.range k).map (numI l)) 0 rfl rfl Hown.out (by rw [List.length_map, List.length_range]; omega) hsz2 ?_)
        intro v' w5 hown5 g5 hb5
        rw [← Hst.out] at hown5
        have hb5' := hb.trans (hb5)
        clear g5 hb5 hb
        go_wp2_with fail
        go_roundw
        case rel => exact ⟨k + 1, _, _, by go_num, rfl, rfl, by omega, hown5, hb5'⟩
        case measure => simp [intOf]; omega
    · have hkn : k = cm + 1 := by omega
      subst hkn
      have hd : decide (cm + 1 ≤ cm) = false := by simp
      go_wp2_with fail
      go_ret
      exact ⟨_, rfl, Hown.out.mono hsz, hb1.trans (hb.mono hsz)⟩

/-- Some number from 0 to 2^31. -/
def SizeOut (w : World) (e : Ending) (w' : World) : Prop := ∃ s : Int, e = .returned (.int .i64 s) ∧ 0 ≤ s ∧ s ≤ 2147483648 ∧ w = w'
end

section
open Go.RowKit
set_option linter.unusedVariables false
set_option maxRecDepth 100000
attribute [local go_sem ↓] Go.wp_at_zero Go.wp_at_succ

theorem vup_here (b : Nat) (f : Nat → Int) (v : Int) (k : Nat) (h : k = b) : vup b f v (k + 1) = vup b f v k := by rw [vup_succ, if_neg (by simp [h])]
theorem vup_less (b : Nat) (f : Nat → Int) (v : Int) (k : Nat) (h : ¬ k = b) (h2 : f k < vup b f v k) : vup b f v (k + 1) = f k := by rw [vup_succ, if_pos ⟨h, h2⟩]
theorem vup_more (b : Nat) (f : Nat → Int) (v : Int) (k : Nat) (h2 : ¬ f k < vup b f v k) : vup b f v (k + 1) = vup b f v k := by rw [vup_succ, if_neg (fun h => h2 h.2)]
theorem outL_take (D : List (List Int)) (n : Nat) (q : List Int) : outL D n q = (List.range n).map (outI D n q) := rfl
theorem inL_take (D : List (List Int)) (n : Nat) (l : List Int) : inL D n l = (List.range n).map (inI D n l) := rfl
theorem own_len {w : World} {B : Nat} {a : Option Addr} {n c : Nat} {xs : List Int} (h : Own w B (.slice a n c) xs) : xs.length = n := by
  obtain ⟨_, _, h1, _⟩ := h.ints
  simp only [Value.slice.injEq] at h1
  exact h1.2.1.symm
theorem own_slice {w : World} {B : Nat} {v : Value} {xs : List Int} (h : Own w B v xs) : ∃ a n c, v = .slice a n c := by
  obtain ⟨a, c, h1, _⟩ := h.ints
  exact ⟨a, _, c, h1⟩

set_option maxRecDepth 100000 in
set_option maxHeartbeats 6400000 in
theorem refFit_is (i0 i1 i2 i3 : Int) (cv dv lv : Value) (L : List Cu) (D : List (List Int)) (l : List Int) (n : Nat) (w : World) (hC : Custs w cv L) (hG : Grid w dv D) (hI : Ints w lv l) (hn : L.length + 1 = n) (hn2 : n ≤ 4096) (hl : l.length = n) (hD : ArcBd D) :
    Calls Tryz.prog 8 #[.agg #[.int .i64 i0, .int .i64 i1, .int .i64 i2, .int .i64 i3, cv, dv], lv] w (PriceOut w (outL D n (inL D n l)) (inL D n l)) := by
  obtain ⟨w1, ew, hb1, hsz1, hi⟩ := box_inst w (.int .i64 i0) (.int .i64 i1) (.int .i64 i2) (.int .i64 i3) cv dv
  obtain ⟨w2, ew2⟩ : ∃ w2, w1.alloc (.cells #[.slice none 0 0, .slice none 0 0] 29) = w2 := ⟨_, rfl⟩
  have hb2 : Below w1.heap.size w1 w2 := by rw [← ew2]; exact belAlloc _ _
  have hsz2 : w2.heap.size = w.heap.size + 1 + 1 := by rw [← ew2]; simp; omega
  have hlz : Blk2 w2 (w.heap.size + 1) (.slice none 0 0) (.slice none 0 0) := by rw [← ew2, ← hsz1]; exact Blk2.new _ _ _ _
  have hi := hi.below hb2
  obtain ⟨c0, c1, c2, c3, c4, c5⟩ := hi
  have hbb := bel2 hb1 hb2
  have hC2 := hC.below hbb
  obtain ⟨ca, cm, cc, rfl, hcm, _, _⟩ := hC2.open
  obtain ⟨w3, ew3⟩ : ∃ w3, w2.alloc (.cells #[.slice none 0 0, .slice none 0 0] 29) = w3 := ⟨_, rfl⟩
  have hb3 : Below w2.heap.size w2 w3 := by rw [← ew3]; exact belAlloc _ _
  have hblk : Blk2 w3 w2.heap.size (.slice none 0 0) (.slice none 0 0) := by rw [← ew3]; exact Blk2.new _ _ _ _
  have HG := Lib.hid (hG.below hbb)
  obtain ⟨la, lm, lc, rfl, hlm, _, hlc⟩ := (hI.below hbb).open
  have hlc' : ∀ k, k < lm → ∃ b o', la = some ⟨b, o', none⟩ ∧ b < w2.heap.size ∧ w2.cell? ⟨b, o' + k, none⟩ = some (.int .i64 (nth l k)) := fun k hk => by
    obtain ⟨b, o', e1, e2⟩ := hlc k hk
    exact ⟨b, o', e1, World.block_lt_of_cell? w2 _ e2, e2⟩
  have Hlc := Lib.hid hlc'
  have hlmn : lm = n := by omega
  subst hlmn
  have Hb := Lib.hid hbb
  have Hew := Lib.hid ew
  have Hew2 := Lib.hid ew2
  have Hew3 := Lib.hid ew3
  have Hlz := Lib.hid hlz
  have l0 : w.heap.size < w2.heap.size := by omega
  have l1 : w.heap.size + 1 < w2.heap.size := by omega
  have hnp : 0 < lm := by omega
  have Hl := Lib.hid hl
  have hn3 : (lm : Int) ≤ 4096 := by omega
  have hcm2 : cm ≤ 4096 := by omega
  have Hn2 := Lib.hid hn2
  have Hcn : Hid ((lm : Int) = (cm : Int) + 1) := Lib.hid (by omega)
  have hS0 : Hid (Blk2 w3 w2.heap.size (.slice none 0 0) (.slice none 0 0) ∧ Own w3 (w2.heap.size + 1) (.slice none 0 0) ((List.range 0).map (inI D lm l)) ∧ Below w2.heap.size w2 w3) := Lib.hid ⟨hblk, Own.nil _ _, hb3⟩
  clear ew ew2 ew3 hb1 hb2 hb3 hsz1 hsz2 hlz hn hC hG hI hl hn2 hC2 hcm hblk hlm hlc hlc' hbb
  go_enter Tryz.func8, Tryz.ntmps8
  go_upto_region 1 with (fail)
  rw [Hew.out, Hew2.out]
  generalize eg : w.heap.size = g at *
  have Heg := Lib.hid eg
  clear eg
  have Hbg : Hid (Below g w w2) := Lib.hid Hb.out
  go_upto_region 3 with (fail)
  rw [Hew3.out]
  rw [show Value.int .i64 ((cm : Int) + 1) = Value.int .i64 (lm : Int) by rw [Hcn.out]]
  generalize et : w2.heap.size = t at *
  have Het := Lib.hid et
  clear et
  go_wp2_with fail
  go_loopw [7, 8, 9] (fun b v a wr => ∃ (k : Nat) (x y iv : Value), b = .int .i64 k ∧ x = v ∧ y = a ∧ k ≤ lm ∧ Blk2 wr t (.slice none 0 0) iv ∧ Own wr (t + 1) iv ((List.range k).map (inI D lm l)) ∧ Below t w2 wr) (fun b _ _ _ => lm - (intOf b).toNat)
  case atStart => exact ⟨0, _, _, _, rfl, rfl, rfl, Nat.zero_le _, hS0.out.1, hS0.out.2.1, hS0.out.2.2⟩
  case round =>
    obtain ⟨k, x, y, iv, rfl, rfl, rfl, hk, hblk, hown, hb⟩ := hrel
    obtain ⟨wo, rfl⟩ : ∃ wo : World, wo = wr := ⟨_, rfl⟩
    obtain ⟨t0, t1, t2, t3⟩ := hblk.cells
    have lt := hblk.lt
    have Hblk := Lib.hid hblk
    have Hown := Lib.hid hown
    have Hbw := Lib.hid hb
    have d0 := cell_lt hb l0 c0
    have d1 := cell_lt hb l0 c1
    have d2 := cell_lt hb l0 c2
    have d3 := cell_lt hb l0 c3
    have d4 := cell_lt hb l0 c4
    have d5 := cell_lt hb l0 c5
    have HGo := Lib.hid (HG.out.below (by rw [Het.out]; exact hb))
    clear hblk hown
    by_cases hlt : k < lm
    · obtain ⟨lb, lo, rfl, hlb, f0⟩ := Hlc.out k hlt
      have f0r := cell_lt hb hlb f0
      have hi0 : (0 : Int) ≤ (k : Int) := by omega
      have hi1 : (k : Int) < (lm : Int) := by omega
      have Hfit := Lib.hid (vup_fit hD hlt l)
      generalize nth l k = X at *
      obtain ⟨V, hV⟩ : ∃ V, V = vat lm X := ⟨_, rfl⟩
      rw [← hV] at Hfit
      have HV : Hid (V = if lm = 1 then 0 else max X 0) := Lib.hid hV
      clear f0 hV hb
      go_upto_if 29 with fail
      go_cut [8] (fun s8 wx => s8 = .int .i64 (max X 0) ∧ wo = wx)
      case first =>
        by_cases hX : X < 0
        · have hX' : decide (X < 0) = true := by simpa using hX
          have hm : Hid (max X 0 = 0) := Lib.hid (by omega)
          clear hX
          rw [hX']
          go_wp2_with fail
          go_meet
          exact ⟨by rw [hm.out], rfl⟩
        · have hX' : decide (X < 0) = false := by simpa using hX
          have hm : Hid (max X 0 = X) := Lib.hid (by omega)
          clear hX
          rw [hX']
          go_wp2_with fail
          go_meet
          exact ⟨by rw [hm.out], rfl⟩
      case rest =>
        obtain ⟨rfl, rfl⟩ := hcut
        obtain ⟨M, hM⟩ : ∃ M, max X 0 = M := ⟨_, rfl⟩
        rw [hM] at HV ⊢
        clear hM
        go_upto_if 31 with fail
        go_cut [8] (fun s8 wx => s8 = .int .i64 V ∧ wo = wx)
        case first =>
          by_cases hn1 : lm = 1
          · have h1' : ((lm : Int) == 1) = true := by simp; omega
            have hm : Hid (V = 0) := Lib.hid (by rw [HV.out, if_pos hn1])
            clear hn1
            rw [h1']
            go_wp2_with fail
            go_meet
            exact ⟨by rw [hm.out], rfl⟩
          · have h1' : ((lm : Int) == 1) = false := by simp; omega
            have hm : Hid (V = M) := Lib.hid (by rw [HV.out, if_neg hn1])
            clear hn1
            rw [h1']
            go_wp2_with fail
            go_meet
            exact ⟨by rw [hm.out], rfl⟩
        case rest =>
          obtain ⟨rfl, rfl⟩ := hcut
          go_wp2_with fail
          go_loopw [8, 9] (fun v a wq => ∃ (j : Nat) (U : Int), a = .int .i64 j ∧ v = .int .i64 U ∧ U = vup k (fun a => arcI D a k) V j ∧ j ≤ lm ∧ Below wo.heap.size wo wq) (fun _ a _ => lm - (intOf a).toNat)
          case atStart => exact ⟨0, V, rfl, rfl, rfl, Nat.zero_le _, Below.refl _ _⟩
          case round =>
            obtain ⟨j, U, rfl, rfl, hU, hj, hbq⟩ := hrel
            have HU := Lib.hid hU
            clear hU
            by_cases hlj : j < lm
            · have hj1 : (j : Int) < (lm : Int) := by omega
              obtain ⟨q0, q1, q2, q3, q4, q5⟩ := six_below hbq ⟨d0, d1, d2, d3, d4, d5⟩
              by_cases hjk : j = k
              · have bne : ((j : Int) != (k : Int)) = false := by simp; omega
                have Hs := Lib.hid (vup_here k (fun a => arcI D a k) V j hjk)
                clear hjk
                go_wp2_with fail
                go_roundw
                case rel => exact ⟨j + 1, U, by go_num, rfl, by rw [Hs.out]; exact HU.out, by omega, hbq⟩
                case measure => simp [intOf]; omega
              · have bne : ((j : Int) != (k : Int)) = true := by simp; omega
                have Harc := Lib.hid (fun (W : World) (h : Below wr.heap.size wr W) => refArc_is i0 i1 i2 i3 (.slice ca cm cc) dv D j k W (HGo.out.below (bel2 hbq h)))
                have Hs1 : Hid (arcI D j k < U → arcI D j k = vup k (fun a => arcI D a k) V (j + 1)) := Lib.hid (fun h => (vup_less k (fun a => arcI D a k) V j hjk (by rw [← HU.out]; exact h)).symm)
                have Hs2 : Hid (¬ arcI D j k < U → U = vup k (fun a => arcI D a k) V (j + 1)) := Lib.hid (fun h => HU.out.trans (vup_more k (fun a => arcI D a k) V j (by rw [← HU.out]; exact h)).symm)
                generalize arcI D (j : Int) (k : Int) = A at *
                have b0 := Below.refl wr.heap.size wr
                clear hjk
                by_cases hA : A < U
                · have hA' : decide (A < U) = true := by simpa using hA
                  have H1 := Lib.hid (Hs1.out hA)
                  clear hA
                  go_wp2_with fail
                  refine (Harc.out _ b0).mono ?_
                  rintro e w5 ⟨rfl, hb5⟩
                  obtain ⟨s0, s1, s2, s3, s4, s5⟩ := six_below hb5 ⟨q0, q1, q2, q3, q4, q5⟩
                  go_wp2_with fail
                  refine (Harc.out _ hb5).mono ?_
                  rintro e w6 ⟨rfl, hb6⟩
                  have hb7 := bel2 hbq (bel2 hb5 hb6)
                  clear hb5 hb6
                  go_wp2_with fail
                  go_roundw
                  case rel => exact ⟨j + 1, A, by go_num, rfl, H1.out, by omega, hb7⟩
                  case measure => simp [intOf]; omega
                · have hA' : decide (A < U) = false := by simpa using hA
                  have H1 := Lib.hid (Hs2.out hA)
                  clear hA
                  go_wp2_with fail
                  refine (Harc.out _ b0).mono ?_
                  rintro e w5 ⟨rfl, hb5⟩
                  have hb7 := bel2 hbq hb5
                  clear hb5
                  go_wp2_with fail
                  go_roundw
                  case rel => exact ⟨j + 1, U, by go_num, rfl, H1.out, by omega, hb7⟩
                  case measure => simp [intOf]; omega
            · have hjl : j = lm := by omega
              subst hjl
              have HUi : Hid (U = inI D j l k) := Lib.hid (HU.out.trans Hfit.out)
              have Hst := Lib.hid (range_map_succ (inI D j l) k)
              rw [← HUi.out] at Hst
              have HownQ := Lib.hid (Hown.out.below hbq)
              have HblkQ := Lib.hid (Hblk.out.below hbq)
              obtain ⟨v0, v1, v2, v3⟩ := HblkQ.out.cells
              have ltq := HblkQ.out.lt
              have Hbq2 := Lib.hid (Hbw.out.trans (hbq.mono (by omega)))
              have hlen : Hid (((List.range k).map (inI D j l)).length + 1 ≤ 17592186044416) := Lib.hid (by have := Hn2.out; rw [List.length_map, List.length_range]; omega)
              have hlt1 : t + 1 ≤ wr.heap.size := by omega
              clear hlj hj hbq
              go_wp2_with (at_builtin; refine wpList_push rfl _ _ rfl wr (t + 1) iv ((List.range k).map (inI D j l)) U rfl rfl HownQ.out hlen.out hlt1 ?_)
              intro v' w5 hown5 g5 hb5
              rw [← Hst.out] at hown5
              obtain ⟨va, vn, vc, rfl⟩ := own_slice hown5
              have hne := HownQ.out.not' (Nat.lt_succ_self t)
              have hblk5 := HblkQ.out.kept g5 hne
              obtain ⟨y0, y1, y2, y3⟩ := hblk5.cells
              have Hblk5 := Lib.hid hblk5
              have Hown5 := Lib.hid hown5
              have Hb5 := Lib.hid (Hbq2.out.trans (hb5.mono (by omega)))
              clear hown5 g5 hb5 hblk5 hne v0 v1 v2 v3
              go_wp2_with fail
              go_roundw
              case rel =>
                refine ⟨k + 1, _, _, .slice va vn vc, by go_num, rfl, rfl, by omega, ⟨Hblk5.out.lies.set 1 _ (by simp), by rw [World.frozen?_setCell]; exact y2, by rw [World.frozen?_setCell]; exact y3⟩, Hown5.out.kept (grownBy_setCell w5 ⟨t, 1, none⟩ _) (Own.not Hown5.out (Nat.lt_succ_self t)), Hb5.out.setCell (p := ⟨t, 1, none⟩) (Nat.le_refl _) _⟩
              case measure => simp [intOf]; omega
    · have hkn : k = lm := by omega
      subst hkn
      have hI0 : Own wo (t + 1) iv (inL D k l) := Hown.out
      obtain ⟨gi, ci, rfl⟩ := own_form hI0 (inL_len _ _ _) hnp
      have hgi := hI0.lt gi rfl
      obtain ⟨hgi1, hgi2⟩ := hgi
      have HI0 := Lib.hid hI0
      have hgit : ¬ gi = t := by omega
      have hlto : t ≤ wo.heap.size := by omega
      clear hI0 hlt hk hb d0 d1 d2 d3 d4 d5
      go_wp2_with fail
      go_loopw [10, 11, 12, 13, 14] (fun a v s b kk wr => ∃ (j : Nat) (x1 x2 x3 x4 ov : Value), a = .int .i64 j ∧ x1 = v ∧ x2 = s ∧ x3 = b ∧ x4 = kk ∧ j ≤ k ∧ Blk2 wr t ov (.slice (some ⟨gi, 0, none⟩) k ci) ∧ Own wr wo.heap.size ov ((List.range j).map (outI D k (inL D k l))) ∧ wo.grownBy wr (some t)) (fun a _ _ _ _ _ => k - (intOf a).toNat)
      case atStart => exact ⟨0, _, _, _, _, _, rfl, rfl, rfl, rfl, rfl, Nat.zero_le _, Hblk.out, Own.nil _ _, ⟨rfl, rfl, rfl, Nat.le_refl _, fun _ _ _ => rfl⟩⟩
      case round =>
        obtain ⟨j, x1, x2, x3, x4, ov, rfl, rfl, rfl, rfl, rfl, hj, hblk, hown, hg⟩ := hrel
        obtain ⟨wp, rfl⟩ : ∃ wp : World, wp = wr := ⟨_, rfl⟩
        have hbr := Hbw.out.grown hg hlto (by intro x hx; simp at hx; omega)
        have d0 := cell_lt hbr l0 c0
        have d1 := cell_lt hbr l0 c1
        have d2 := cell_lt hbr l0 c2
        have d3 := cell_lt hbr l0 c3
        have d4 := cell_lt hbr l0 c4
        have d5 := cell_lt hbr l0 c5
        have HGp := Lib.hid (HG.out.below (by rw [Het.out]; exact hbr))
        have HIp := Lib.hid (own_ne HI0.out hg (by simp [Value.ownBlock]; omega))
        have Hblk2 := Lib.hid hblk
        have Hown2 := Lib.hid hown
        have Hg2 := Lib.hid hg
        have Hbr2 := Lib.hid hbr
        have hsg := hg.size
        obtain ⟨z0, z1, z2, z3⟩ := hblk.cells
        clear hblk hown hg hbr
        by_cases hlt : j < k
        · have hj1 : (j : Int) < (k : Int) := by omega
          go_wp2_with fail
          go_loopw [11, 12, 13, 14] (fun v s b kk wq => ∃ (m : Nat) (x : Value) (B : Int) (F : Bool), b = .int .i64 m ∧ x = kk ∧ v = .int .i64 B ∧ s = .bool F ∧ (B, F) = lup j (fun b => arcI D j b - nth (inL D k l) b) m ∧ m ≤ k ∧ Below wp.heap.size wp wq) (fun _ _ b _ _ => k - (intOf b).toNat)
          case atStart => exact ⟨0, _, 0, false, rfl, rfl, rfl, rfl, rfl, Nat.zero_le _, Below.refl _ _⟩
          case round =>
            obtain ⟨m, x, B, F, rfl, rfl, rfl, rfl, hbf, hm, hbq⟩ := hrel
            have Hbf := Lib.hid hbf
            clear hbf
            by_cases hlm : m < k
            · have hm0 : (0 : Int) ≤ (m : Int) := by omega
              have hm1 : (m : Int) < (k : Int) := by omega
              obtain ⟨q0, q1, q2, q3, q4, q5⟩ := six_below hbq ⟨d0, d1, d2, d3, d4, d5⟩
              have z1q := cell_below hbq z1
              obtain ⟨g9, c9, hv9, _, _, _, hcell⟩ := (HIp.out.below hbq).out (by rw [inL_len]; omega)
              simp only [Value.slice.injEq, Option.some.injEq, Addr.mk.injEq, and_true] at hv9
              obtain ⟨rfl, hv1, hv2⟩ := hv9
              obtain ⟨f0, _⟩ := hcell m (by rw [inL_len]; exact hlm)
              rw [Nat.zero_add] at f0
              have hA := hD j m
              obtain ⟨hA1, hA2⟩ := hA
              have hY := nth_in_bd hD k l m
              obtain ⟨hY1, hY2⟩ := hY
              have Harc := Lib.hid (fun (W : World) (h : Below wr.heap.size wr W) => refArc_is i0 i1 i2 i3 (.slice ca cm cc) dv D j m W (HGp.out.below (bel2 hbq h)))
              have hs0 : m = j → (B, F) = lup j (fun b => arcI D j b - nth (inL D k l) b) (m + 1) := fun h => by rw [lup_here _ _ _ h]; exact Hbf.out
              have hs1 : ¬ m = j → (F = false ∨ arcI D j m - nth (inL D k l) m < B) → (arcI D j m - nth (inL D k l) m, true) = lup j (fun b => arcI D j b - nth (inL D k l) b) (m + 1) := fun h h2 => by rw [lup_step _ _ _ h, ← Hbf.out, if_pos h2]
              have hs2 : ¬ m = j → ¬ (F = false ∨ arcI D j m - nth (inL D k l) m < B) → (B, F) = lup j (fun b => arcI D j b - nth (inL D k l) b) (m + 1) := fun h h2 => by rw [lup_step _ _ _ h, ← Hbf.out, if_neg h2]
              obtain ⟨K, hK⟩ : ∃ K, K = arcI D j m - nth (inL D k l) m := ⟨_, rfl⟩
              rw [← hK] at hs1 hs2
              have Hs0 := Lib.hid hs0
              have Hs1 := Lib.hid hs1
              have Hs2 := Lib.hid hs2
              generalize arcI D (j : Int) (m : Int) = A at *
              generalize nth (inL D k l) m = Y at *
              have hw1 : IntKind.i64.wrap (A - Y) = K := by rw [hK]; exact IntWalk.i64_in _ (by omega)
              have b0 := Below.refl wr.heap.size wr
              clear hcell hv1 hv2 hs0 hs1 hs2 hK
              have hcase : ((m = j ∧ ((j : Int) != (m : Int)) = false)) ∨ (¬ m = j ∧ ((j : Int) != (m : Int)) = true ∧ F = false) ∨ (¬ m = j ∧ ((j : Int) != (m : Int)) = true ∧ F = true ∧ decide (K < B) = true) ∨ (¬ m = j ∧ ((j : Int) != (m : Int)) = true ∧ F = true ∧ decide (K < B) = false) := by
                by_cases e : m = j
                · exact .inl ⟨e, by simp; omega⟩
                · have h1 : ((j : Int) != (m : Int)) = true := by simp; omega
                  cases F with
                  | false => exact .inr (.inl ⟨e, h1, rfl⟩)
                  | true =>
                    by_cases h2 : K < B
                    · exact .inr (.inr (.inl ⟨e, h1, rfl, by simpa using h2⟩))
                    · exact .inr (.inr (.inr ⟨e, h1, rfl, by simpa using h2⟩))
              go_wp2_with fail
              go_region_held3 (fun w' => w'.cell? ⟨g, 0, none⟩ = some (.int .i64 i0) ∧ w'.cell? ⟨g, 1, none⟩ = some (.int .i64 i1) ∧ w'.cell? ⟨g, 2, none⟩ = some (.int .i64 i2) ∧ w'.cell? ⟨g, 3, none⟩ = some (.int .i64 i3) ∧ w'.cell? ⟨g, 4, none⟩ = some (.slice ca cm cc) ∧ w'.cell? ⟨g, 5, none⟩ = some dv ∧
                  w'.cell? ⟨t, 1, none⟩ = some (.slice (some ⟨gi, 0, none⟩) k ci) ∧ w'.cell? ⟨gi, m, none⟩ = some (.int .i64 Y))
                (first | go_keep | exact ⟨cell_below b6 q0, cell_below b6 q1, cell_below b6 q2, cell_below b6 q3, cell_below b6 q4, cell_below b6 q5, cell_below b6 z1q, cell_below b6 f0⟩)
                (first | (go_at_call 26; refine (Harc.out _ ?_).mono ?_; (first | exact b0 | exact belDrew _); rintro e w6 ⟨rfl, hb6⟩; (first | have b6 := bel2 b0 hb6 | have b6 := bel2 (belDrew wr) hb6)))
              all_goals
                have hb7 := bel2 hbq b6
                have Hb7 : Hid (Below wp.heap.size wp w6 ∧ Below wp.heap.size wp w6.drew) := Lib.hid ⟨hb7, hb7.drew⟩
                clear b6 hb7 hbq b0 q0 q1 q2 q3 q4 q5 z1q f0 hw1
                rcases hcase with ⟨e, bne⟩ | ⟨e, bne, rfl⟩ | ⟨e, bne, rfl, bk⟩ | ⟨e, bne, rfl, bk⟩
                · have H1 := Lib.hid (Hs0.out e)
                  clear e
                  go_wp2_with fail
                  go_roundw
                  case rel => exact ⟨m + 1, _, B, F, by go_num, rfl, rfl, rfl, H1.out, by omega, (by first | exact Hb7.out.1 | exact Hb7.out.2)⟩
                  case measure => simp [intOf]; omega
                · have H1 := Lib.hid (Hs1.out e (.inl rfl))
                  clear e
                  go_wp2_with fail
                  go_roundw
                  case rel => exact ⟨m + 1, _, K, true, by go_num, rfl, rfl, rfl, H1.out, by omega, (by first | exact Hb7.out.1 | exact Hb7.out.2)⟩
                  case measure => simp [intOf]; omega
                · have H1 := Lib.hid (Hs1.out e (.inr (of_decide_eq_true bk)))
                  clear e
                  go_wp2_with fail
                  go_roundw
                  case rel => exact ⟨m + 1, _, K, true, by go_num, rfl, rfl, rfl, H1.out, by omega, (by first | exact Hb7.out.1 | exact Hb7.out.2)⟩
                  case measure => simp [intOf]; omega
                · have H1 := Lib.hid (Hs2.out e (by have := of_decide_eq_false bk; simp; omega))
                  clear e
                  go_wp2_with fail
                  go_roundw
                  case rel => exact ⟨m + 1, _, B, true, by go_num, rfl, rfl, rfl, H1.out, by omega, (by first | exact Hb7.out.1 | exact Hb7.out.2)⟩
                  case measure => simp [intOf]; omega
            · have hmk : m = k := by omega
              subst hmk
              have HB : Hid (B = outI D m (inL D m l) j) := Lib.hid (by have := Hbf.out; unfold outI leastI; rw [← this])
              have Hst := Lib.hid (range_map_succ (outI D m (inL D m l)) j)
              rw [← HB.out] at Hst
              have HownQ := Lib.hid (Hown2.out.below hbq)
              have HblkQ := Lib.hid (Hblk2.out.below hbq)
              obtain ⟨v0, v1, v2, v3⟩ := HblkQ.out.cells
              have ltq := HblkQ.out.lt
              have hszq := hbq.size
              have hszo : wo.heap.size ≤ wr.heap.size := by omega
              have Hgq := Lib.hid (grown_step Hg2.out (r := none) (grownBy_below hbq) (by simp))
              have hlen : Hid (((List.range j).map (outI D m (inL D m l))).length + 1 ≤ 17592186044416) := Lib.hid (by have := Hn2.out; rw [List.length_map, List.length_range]; omega)
              clear hlm hm hbq
              go_wp2_with (at_builtin; refine wpList_push rfl _ _ rfl wr wo.heap.size ov ((List.range j).map (outI D m (inL D m l))) B rfl rfl HownQ.out hlen.out hszo ?_)
              intro v' w5 hown5 g5 hb5
              rw [← Hst.out] at hown5
              obtain ⟨va, vn, vc, rfl⟩ := own_slice hown5
              have hne := HownQ.out.not' (show t < wo.heap.size by omega)
              have hblk5 := HblkQ.out.kept g5 hne
              obtain ⟨y0, y1, y2, y3⟩ := hblk5.cells
              have Hblk5 := Lib.hid hblk5
              have Hown5 := Lib.hid hown5
              have Hg5 := Lib.hid (grown_step Hgq.out g5 (fun x hx => (HownQ.out.lt x hx).1))
              have htwo : t < wo.heap.size := by omega
              clear hown5 g5 hb5 hblk5 hne v0 v1 v2 v3
              go_wp2_with fail
              go_roundw
              case rel =>
                exact ⟨j + 1, _, _, _, _, .slice va vn vc, by go_num, rfl, rfl, rfl, rfl, by omega, ⟨Hblk5.out.lies.set 0 _ (by simp), by rw [World.frozen?_setCell]; exact y2, by rw [World.frozen?_setCell]; exact y3⟩, Hown5.out.kept (grownBy_setCell w5 ⟨t, 0, none⟩ _) (Own.not Hown5.out htwo), grownBy_trans Hg5.out (grownBy_setCell w5 ⟨t, 0, none⟩ _)⟩
              case measure => simp [intOf]; omega
        · have hjk : j = k := by omega
          subst hjk
          obtain ⟨go, co, rfl⟩ := own_form Hown2.out (show ((List.range j).map (outI D j (inL D j l))).length = j by simp) hnp
          have hgo := Hown2.out.lt go rfl
          obtain ⟨hgo1, hgo2⟩ := hgo
          have hz := Hlz.out
          have hzl := (Hlz.out.lies.lower Hbr2.out (by omega : g + 1 < t))
          have Hzl := Lib.hid hzl
          have y0 := hzl.at 0 _ rfl
          have y1 := hzl.at 1 _ rfl
          have y2 := frozen_lt Hbr2.out (by omega : g + 1 < t) hz.f0
          have y3 := frozen_lt Hbr2.out (by omega : g + 1 < t) hz.f1
          clear hz hzl hlt hj
          go_wp2_with fail
          have q := set2 Hzl.out (.slice (some ⟨go, 0, none⟩) j co) (.slice (some ⟨gi, 0, none⟩) j ci)
          have q0 := q.at 0 _ rfl
          have q1 := q.at 1 _ rfl
          have hP : OwnP wp (t + 1) (.slice (some ⟨go, 0, none⟩) j co) (.slice (some ⟨gi, 0, none⟩) j ci) (outL D j (inL D j l)) (inL D j l) := ⟨Hown2.out.mono (by omega), HIp.out, fun x hx e => by simp [Value.ownBlock] at hx e; omega⟩
          refine bodyPost_ret (v := .agg #[.slice (some ⟨go, 0, none⟩) j co, .slice (some ⟨gi, 0, none⟩) j ci]) (by simp [results, Tryz.results8, go_sem, q0, q1]) rfl ⟨_, _, rfl, ?_, ?_⟩
          · rw [Heg.out]
            exact (hP.kept (grown2 wp (g + 1) _ _) (fun x hx => by cases hx; omega)).mono (by omega)
          · rw [Heg.out]
            exact Hbg.out.trans ((Hbr2.out.mono (by omega)).trans (below2 wp (g + 1) _ _ (by omega)))
end

section
open Go.RowKit
set_option linter.unusedVariables false
set_option maxRecDepth 100000

theorem replicate_snoc (k : Nat) (c : Int) : List.replicate (k + 1) c = List.replicate k c ++ [c] := by rw [List.replicate_succ']

def lowI (q : List Int) (place by_ : Int) (k : Nat) : Int := if (k : Int) = place then nth q k - by_ else nth q k
theorem lower_map (q : List Int) (place by_ : Int) : lowerL q place by_ = (List.range q.length).map (lowI q place by_) := by
  apply ext_nth (by rw [lowerL_len]; simp)
  intro k hk
  rw [lowerL_len] at hk
  rw [nth_map_range _ _ _ hk]
  unfold lowerL lowI
  by_cases h : 0 ≤ place ∧ place < (q.length : Int)
  · rw [if_pos h, nth_set (by omega)]
    by_cases e : place.toNat = k
    · rw [if_pos e, if_pos (by omega), e]
    · rw [if_neg e, if_neg (by omega)]
  · rw [if_neg h, if_neg (by omega)]
end

end Go.Proofs.YtnhcgpkcmfelkaaGreat
