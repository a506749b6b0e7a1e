/-
  My own work: plain facts on digits of 65536.
  My own work: tranterref01.plus, minus, size: their contracts.
  My own work: tranterref01.size, trim, Of: their contracts.
  My own work: numbers, moved from world to world.
  My own work: tranterref01.Add: its contract.
  My own work: tranterref01.Of: its contract.
  My own work: tranterref01.Int: its contract.
-/
import Derived.Test.YtnhcgpkcmfelkaaMNum
import Derived.RegionTactic
import Derived.Deep.QuietTactic
import Derived.BigQuiet
import Derived.Deep.RegionHeld3
import Derived.Deep.AppendLies
namespace Go.Proofs.Ytnhcgpkcmfelkaa
section
open Go.RowKit
set_option linter.unusedVariables false
set_option maxRecDepth 100000

/-- 65536 to the k. -/
def pw : Nat → Int
  | 0 => 1
  | k + 1 => 65536 * pw k
theorem pw_pos (k : Nat) : 0 < pw k := by
  induction k with
  | zero => simp [pw]
  | succ k ih => simp only [pw]; omega
theorem pw_add (i j : Nat) : pw (i + j) = pw i * pw j := by
  induction i with
  | zero => simp [pw]
  | succ i ih => rw [Nat.succ_add]; simp only [pw]; rw [ih, Int.mul_assoc]
theorem pw_le {i j : Nat} (h : i ≤ j) : pw i ≤ pw j := by
  obtain ⟨k, rfl⟩ := Nat.exists_eq_add_of_le h
  rw [pw_add]
  have h1 := pw_pos i
  have h2 := pw_pos k
  have : pw i * 1 ≤ pw i * pw k := Int.mul_le_mul_of_nonneg_left (by omega) (by omega)
  omega

def dval : List Int → Int
  | [] => 0
  | d :: ds => d + 65536 * dval ds
def Dg (ds : List Int) : Prop := ∀ d ∈ ds, 0 ≤ d ∧ d < 65536
/-- No nought at the end. -/
def Nm (ds : List Int) : Prop := 0 < ds.length → nth ds (ds.length - 1) ≠ 0

theorem dval_append (xs ys : List Int) : dval (xs ++ ys) = dval xs + pw xs.length * dval ys := by
  induction xs with
  | nil => simp [dval, pw]
  | cons x xs ih =>
    simp only [List.cons_append, dval, List.length_cons, pw, ih, Int.mul_add, Int.mul_assoc]
    omega
theorem dval_snoc (xs : List Int) (y : Int) : dval (xs ++ [y]) = dval xs + pw xs.length * y := by rw [dval_append]; simp [dval]
theorem dval_bd {ds : List Int} (h : Dg ds) : 0 ≤ dval ds ∧ dval ds < pw ds.length := by
  induction ds with
  | nil => simp [dval, pw]
  | cons d ds ih =>
    have h1 := h d (List.mem_cons_self ..)
    have h2 := ih (fun x hx => h x (List.mem_cons_of_mem _ hx))
    simp only [dval, List.length_cons, pw]
    omega
theorem nth_dg {ds : List Int} (h : Dg ds) (k : Nat) : 0 ≤ nth ds k ∧ nth ds k < 65536 := by
  by_cases hk : k < ds.length
  · exact h _ (nth_mem hk)
  · have : nth ds k = 0 := by unfold nth; simp; rw [List.getElem?_eq_none (by omega)]; rfl
    omega
theorem nth_over {ds : List Int} {k : Nat} (h : ds.length ≤ k) : nth ds k = 0 := by unfold nth; simp; rw [List.getElem?_eq_none (by omega)]; rfl
theorem dval_take_succ (ds : List Int) (k : Nat) : dval (ds.take (k + 1)) = dval (ds.take k) + pw k * nth ds k := by
  by_cases hk : k < ds.length
  · rw [take_succ_nth ds k hk, dval_snoc]
    congr 2
    rw [List.length_take]; congr 1; omega
  · rw [List.take_of_length_le (by omega), List.take_of_length_le (by omega), nth_over (by omega), Int.mul_zero, Int.add_zero]
theorem Dg.snoc {ds : List Int} (h : Dg ds) {y : Int} (h0 : 0 ≤ y) (h1 : y < 65536) : Dg (ds ++ [y]) := by
  intro x hx
  rcases List.mem_append.1 hx with hx | hx
  · exact h x hx
  · simp at hx; subst hx; exact ⟨h0, h1⟩
theorem Dg.take {ds : List Int} (h : Dg ds) (k : Nat) : Dg (ds.take k) := fun x hx => h x (List.mem_of_mem_take hx)
theorem Dg.drop {ds : List Int} (h : Dg ds) (k : Nat) : Dg (ds.drop k) := fun x hx => h x (List.mem_of_mem_drop hx)
theorem Dg.nil : Dg [] := fun x hx => by simp at hx

/-- A number cut in two at digit k. -/
theorem dval_split (ds : List Int) (k : Nat) (h : k ≤ ds.length) : dval ds = dval (ds.take k) + pw k * dval (ds.drop k) := by
  have := dval_append (ds.take k) (ds.drop k)
  rw [List.take_append_drop, List.length_take, Nat.min_eq_left h] at this
  exact this
theorem drop_nth (ds : List Int) (k : Nat) (h : k < ds.length) : ds.drop k = nth ds k :: ds.drop (k + 1) := by
  rw [nth_lt h]; exact List.drop_eq_getElem_cons h
theorem dval_drop (ds : List Int) (k : Nat) (h : k < ds.length) : dval (ds.drop k) = nth ds k + 65536 * dval (ds.drop (k + 1)) := by
  rw [drop_nth ds k h]; rfl
theorem norm_ge {ds : List Int} (h : Dg ds) (hn : Nm ds) (hp : 0 < ds.length) : pw (ds.length - 1) ≤ dval ds := by
  rw [dval_split ds (ds.length - 1) (by omega), dval_drop ds _ (by omega)]
  have h1 := dval_bd (h.take (ds.length - 1))
  have h2 := nth_dg h (ds.length - 1)
  have h3 := hn hp
  have h4 := dval_bd (h.drop (ds.length - 1 + 1))
  have h5 := pw_pos (ds.length - 1)
  have : pw (ds.length - 1) * 1 ≤ pw (ds.length - 1) * (nth ds (ds.length - 1) + 65536 * dval (ds.drop (ds.length - 1 + 1))) :=
    Int.mul_le_mul_of_nonneg_left (by omega) (by omega)
  omega
theorem shorter_lt {xs ys : List Int} (ha : Dg xs) (hb : Dg ys) (hn : Nm ys) (h : xs.length < ys.length) : dval xs < dval ys := by
  have h1 := dval_bd ha
  have h2 := norm_ge hb hn (by omega)
  have h3 := pw_le (show xs.length ≤ ys.length - 1 by omega)
  omega
/-- The first digit from above that parts two numbers decides. -/
theorem digit_lt {xs ys : List Int} (ha : Dg xs) (hb : Dg ys) (hl : xs.length = ys.length) (k : Nat) (hk : k < xs.length) (hd : xs.drop (k + 1) = ys.drop (k + 1)) (h : nth xs k < nth ys k) : dval xs < dval ys := by
  rw [dval_split xs k (by omega), dval_split ys k (by omega), dval_drop xs k hk, dval_drop ys k (by omega), hd]
  have h1 := dval_bd (ha.take k)
  have h2 := dval_bd (hb.take k)
  rw [List.length_take, Nat.min_eq_left (by omega)] at h1
  have h5 := pw_pos k
  have : pw k * (nth xs k + 65536 * dval (ys.drop (k + 1)) + 1) ≤ pw k * (nth ys k + 65536 * dval (ys.drop (k + 1))) :=
    Int.mul_le_mul_of_nonneg_left (by omega) (by omega)
  rw [Int.mul_add, Int.mul_one] at this
  omega
end

section
open Go.RowKit
set_option linter.unusedVariables false
set_option maxRecDepth 100000

/-- One digit more of a sum. -/
theorem plus_step (xs ys cs : List Int) (k : Nat) (cy t : Int) (hx : Dg xs) (hy : Dg ys) (hc : Dg cs) (hl : cs.length = k) (h0 : 0 ≤ cy) (h1 : cy ≤ 1) (ht : t = cy + nth xs k + nth ys k)
    (hv : dval cs + pw k * cy = dval (xs.take k) + dval (ys.take k)) :
    Dg (cs ++ [t % 65536]) ∧ 0 ≤ t / 65536 ∧ t / 65536 ≤ 1 ∧ dval (cs ++ [t % 65536]) + pw (k + 1) * (t / 65536) = dval (xs.take (k + 1)) + dval (ys.take (k + 1)) := by
  have b1 := nth_dg hx k
  have b2 := nth_dg hy k
  refine ⟨hc.snoc (by omega) (by omega), by omega, by omega, ?_⟩
  rw [dval_snoc, hl, dval_take_succ, dval_take_succ, pw]
  have e : t % 65536 + 65536 * (t / 65536) = t := by omega
  have : pw k * (t % 65536) + 65536 * pw k * (t / 65536) = pw k * cy + pw k * nth xs k + pw k * nth ys k := by
    rw [Int.mul_comm 65536 (pw k), Int.mul_assoc, ← Int.mul_add, e, ht, Int.mul_add, Int.mul_add]
  omega

/-- One digit more of a difference. -/
theorem minus_step (xs ys cs : List Int) (k : Nat) (bo t : Int) (hx : Dg xs) (hy : Dg ys) (hc : Dg cs) (hl : cs.length = k) (h0 : 0 ≤ bo) (h1 : bo ≤ 1) (ht : t = nth xs k - bo - nth ys k)
    (hv : dval cs - pw k * bo = dval (xs.take k) - dval (ys.take k)) :
    (0 ≤ t → Dg (cs ++ [t]) ∧ dval (cs ++ [t]) - pw (k + 1) * 0 = dval (xs.take (k + 1)) - dval (ys.take (k + 1))) ∧
    (t < 0 → Dg (cs ++ [t + 65536]) ∧ dval (cs ++ [t + 65536]) - pw (k + 1) * 1 = dval (xs.take (k + 1)) - dval (ys.take (k + 1))) := by
  have b1 := nth_dg hx k
  have b2 := nth_dg hy k
  constructor
  · intro h
    refine ⟨hc.snoc (by omega) (by omega), ?_⟩
    rw [dval_snoc, hl, dval_take_succ, dval_take_succ, ht, Int.mul_sub, Int.mul_sub]
    omega
  · intro h
    refine ⟨hc.snoc (by omega) (by omega), ?_⟩
    rw [dval_snoc, hl, dval_take_succ, dval_take_succ, ht, Int.mul_add, Int.mul_sub, Int.mul_sub, pw, Int.mul_comm 65536 (pw k)]
    omega
end

section
open Go.RowKit
set_option linter.unusedVariables false
set_option maxRecDepth 100000

def cmpI (x y : Int) : Int := if x < y then -1 else if y < x then 1 else 0
theorem cmpI_lt {x y : Int} (h : x < y) : cmpI x y = -1 := by unfold cmpI; rw [if_pos h]
theorem cmpI_gt {x y : Int} (h : y < x) : cmpI x y = 1 := by unfold cmpI; rw [if_neg (by omega), if_pos h]
theorem cmpI_eq {x y : Int} (h : x = y) : cmpI x y = 0 := by unfold cmpI; rw [if_neg (by omega), if_neg (by omega)]

/-! ### trim, Of, Neg, Add, Times, Int, Below: numbers -/
/-- The value v is the number x, of at most L digits. -/
def IsBig (w : World) (v : Value) (x : Int) (L : Nat) : Prop :=
  ∃ dv ds, v = .agg #[dv, .bool (decide (x < 0))] ∧ Ints w dv ds ∧ Dg ds ∧ Nm ds ∧ dval ds = (x.natAbs : Int) ∧ ds.length ≤ L
theorem IsBig.below {w w' : World} {v : Value} {x : Int} {L : Nat} (h : IsBig w v x L) (hb : Below w.heap.size w w') : IsBig w' v x L := by
  obtain ⟨dv, ds, h1, h2, h3⟩ := h
  exact ⟨dv, ds, h1, h2.below hb, h3⟩
theorem IsBig.mono {w : World} {v : Value} {x : Int} {L L' : Nat} (h : IsBig w v x L) (hl : L ≤ L') : IsBig w v x L' := by
  obtain ⟨dv, ds, h1, h2, h3, h4, h5, h6⟩ := h
  exact ⟨dv, ds, h1, h2, h3, h4, h5, by omega⟩

/-- A struct of two cells, boxed. -/
theorem box_two (w : World) (v0 v1 : Value) (T : TypeId) :
    ∃ w1, w.alloc (.cells #[v0, v1] T) = w1 ∧ Below w.heap.size w w1 ∧ w1.heap.size = w.heap.size + 1 ∧ w1.cell? ⟨w.heap.size, 0, none⟩ = some v0 ∧ w1.cell? ⟨w.heap.size, 1, none⟩ = some v1 ∧
      w1.frozen? ⟨w.heap.size, 0, none⟩ = false ∧ w1.frozen? ⟨w.heap.size, 1, none⟩ = false :=
  ⟨_, rfl, (Below.refl _ _).alloc (Nat.le_refl _) _, by simp, by simp [go_sem], by simp [go_sem], by simp [go_sem], by simp [go_sem]⟩

/-- How long the slice in a cell is. -/
def lenAt : Option Value → Nat
  | some (.slice _ m _) => m
  | _ => 0
theorem trim_zero {ds : List Int} {m : Nat} (h0 : nth ds m = 0) : dval (ds.take (m + 1)) = dval (ds.take m) := by rw [dval_take_succ, h0, Int.mul_zero, Int.add_zero]
theorem nm_take {ds : List Int} {m : Nat} (hm : m + 1 ≤ ds.length) (h0 : nth ds m ≠ 0) : Nm (ds.take (m + 1)) := by
  intro _
  rw [List.length_take, Nat.min_eq_left hm, Nat.add_sub_cancel, nth_take (by omega)]
  exact h0
theorem nm_nil : Nm [] := fun h => by simp at h

theorem two_set (w : World) (B : Nat) (u v u' v' : Value) (h0 : w.cell? ⟨B, 0, none⟩ = some u') (h1 : w.cell? ⟨B, 1, none⟩ = some v') :
    (w.setCell ⟨B, 0, none⟩ u).cell? ⟨B, 0, none⟩ = some u ∧ ((w.setCell ⟨B, 0, none⟩ u).setCell ⟨B, 1, none⟩ v).cell? ⟨B, 1, none⟩ = some v := by
  have hs := World.block_lt_of_cell? w _ h0
  constructor
  · simp [go_sem, h0]
  · simp [go_sem, h1]
/-- With a sign. -/
def sg (neg : Bool) (x : Int) : Int := if neg = true then -x else x
theorem dval_pos {ds : List Int} (h : Dg ds) (hn : Nm ds) (hp : 0 < ds.length) : 0 < dval ds := by
  have h1 := norm_ge h hn hp
  have h2 := pw_pos (ds.length - 1)
  omega
theorem sg_neg {neg : Bool} {x : Int} (h : 0 < x) : decide (sg neg x < 0) = neg := by
  cases neg <;> simp [sg] <;> omega
theorem sg_abs {neg : Bool} {x : Int} (h : 0 ≤ x) : x = ((sg neg x).natAbs : Int) := by
  cases neg <;> simp [sg] <;> omega
theorem IsBig.of_sg {w : World} {dv : Value} {ds : List Int} {neg : Bool} {L : Nat} (h : Ints w dv ds) (hg : Dg ds) (hn : Nm ds) (hp : 0 < ds.length) (hl : ds.length ≤ L) : IsBig w (.agg #[dv, .bool neg]) (sg neg (dval ds)) L :=
  ⟨dv, ds, by rw [sg_neg (dval_pos hg hn hp)], h, hg, hn, sg_abs (dval_bd hg).1, hl⟩
theorem IsBig.zero {w : World} {dv : Value} {neg : Bool} {x : Int} {L : Nat} (h : Ints w dv []) (hx : x = 0) : IsBig w (.agg #[dv, .bool false]) (sg neg x) L := by
  subst hx
  refine ⟨dv, [], ?_, h, Dg.nil, nm_nil, ?_, by simp⟩ <;> cases neg <;> simp [sg, dval]

/-- What trim answers. -/
def TrimOut (w : World) (a : Option Addr) (n c : Nat) (x : Int) (L : Nat) (e : Ending) (w' : World) : Prop :=
  ∃ m neg', e = .returned (.agg #[.slice a m c, .bool neg']) ∧ m ≤ n ∧ IsBig w (.agg #[.slice a m c, .bool neg']) x L ∧ Below w.heap.size w w'
end

section
open Go.RowKit
set_option linter.unusedVariables false
set_option maxRecDepth 100000

theorem drew_below (w : World) : Below w.heap.size w w.drew := below_drewN (Below.refl _ w) 1
theorem IsBig.move {w w2 : World} {a : Option Addr} {m n c : Nat} {neg : Bool} {x : Int} {L : Nat} {cs : List Int} (h : IsBig w (.agg #[.slice a m c, .bool neg]) x L) (hm : m ≤ n) (h1 : Ints w (.slice a n c) cs) (h2 : Ints w2 (.slice a n c) cs) :
    IsBig w2 (.agg #[.slice a m c, .bool neg]) x L := by
  obtain ⟨dv, ds, hv, hd, hr⟩ := h
  simp only [Value.agg.injEq, Array.mk.injEq, List.cons.injEq, Value.bool.injEq, and_true] at hv
  obtain ⟨rfl, rfl⟩ := hv
  refine ⟨_, ds, rfl, ?_, hr⟩
  obtain ⟨a', c', he, h3, h4, h5⟩ := hd
  simp only [Value.slice.injEq] at he
  obtain ⟨rfl, rfl, rfl⟩ := he
  obtain ⟨a', c', he, k3, k4, k5⟩ := h1
  simp only [Value.slice.injEq] at he
  obtain ⟨rfl, rfl, rfl⟩ := he
  obtain ⟨a', c', he, l3, l4, l5⟩ := h2
  simp only [Value.slice.injEq] at he
  obtain ⟨rfl, _, rfl⟩ := he
  refine ⟨_, _, rfl, h3, h4, fun i hi => ?_⟩
  obtain ⟨b, o, ha, hc⟩ := h5 i hi
  obtain ⟨b2, o2, ha2, hc2⟩ := k5 i (by omega)
  obtain ⟨b3, o3, ha3, hc3⟩ := l5 i (by omega)
  rw [ha] at ha2 ha3
  simp only [Option.some.injEq, Addr.mk.injEq, and_true] at ha2 ha3
  obtain ⟨rfl, rfl⟩ := ha2
  obtain ⟨rfl, rfl⟩ := ha3
  rw [hc] at hc2
  simp only [Option.some.injEq, Value.int.injEq, true_and] at hc2
  exact ⟨b, o, ha, by rw [hc3, hc2]⟩
theorem sg_not (x : Int) : sg (!decide (x < 0)) (x.natAbs : Int) = -x := by
  by_cases h : x < 0
  · rw [decide_eq_true h]; simp [sg]; omega
  · rw [decide_eq_false h]; simp [sg]; omega
theorem sg_same (x : Int) : sg (decide (x < 0)) (x.natAbs : Int) = x := by
  by_cases h : x < 0
  · rw [decide_eq_true h]; simp [sg]; omega
  · rw [decide_eq_false h]; simp [sg]; omega
end

section
open Go.RowKit
set_option linter.unusedVariables false
set_option maxRecDepth 100000

theorem sg_add {x y : Int} (h : decide (x < 0) = decide (y < 0)) : sg (decide (x < 0)) ((x.natAbs : Int) + y.natAbs) = x + y := by
  by_cases h1 : x < 0
  · rw [decide_eq_true h1] at h ⊢
    have h2 : y < 0 := by simpa using h.symm
    simp [sg]; omega
  · rw [decide_eq_false h1] at h ⊢
    have h2 : ¬ y < 0 := by simpa using h.symm
    simp [sg]; omega
theorem sg_sub {x y : Int} (h : decide (x < 0) ≠ decide (y < 0)) : sg (decide (x < 0)) ((x.natAbs : Int) - y.natAbs) = x + y := by
  by_cases h1 : x < 0
  · rw [decide_eq_true h1] at h ⊢
    have h2 : ¬ y < 0 := by simpa using h
    simp [sg]; omega
  · rw [decide_eq_false h1] at h ⊢
    have h2 : y < 0 := by simpa using h
    simp [sg]; omega

theorem add_keep {w0 w w' : World} {g : Nat} {v0 v1 v2 v3 : Value}
    (h : w.cell? ⟨g, 0, none⟩ = some v0 ∧ w.cell? ⟨g, 1, none⟩ = some v1 ∧ w.cell? ⟨g + 1, 0, none⟩ = some v2 ∧ w.cell? ⟨g + 1, 1, none⟩ = some v3 ∧ g + 1 + 1 ≤ w.heap.size ∧ Below (g + 1 + 1) w0 w) (hb : Below w.heap.size w w') :
    w'.cell? ⟨g, 0, none⟩ = some v0 ∧ w'.cell? ⟨g, 1, none⟩ = some v1 ∧ w'.cell? ⟨g + 1, 0, none⟩ = some v2 ∧ w'.cell? ⟨g + 1, 1, none⟩ = some v3 ∧ g + 1 + 1 ≤ w'.heap.size ∧ Below (g + 1 + 1) w0 w' := by
  obtain ⟨h0, h1, h2, h3, h4, h5⟩ := h
  exact ⟨cell_below hb h0, cell_below hb h1, cell_below hb h2, cell_below hb h3, Nat.le_trans h4 hb.size, h5.trans (hb.mono h4)⟩
theorem add_store {w0 w : World} {g : Nat} {v0 v1 v2 v3 u v : Value}
    (h : w.cell? ⟨g, 0, none⟩ = some v0 ∧ w.cell? ⟨g, 1, none⟩ = some v1 ∧ w.cell? ⟨g + 1, 0, none⟩ = some v2 ∧ w.cell? ⟨g + 1, 1, none⟩ = some v3 ∧ g + 1 + 1 ≤ w.heap.size ∧ Below (g + 1 + 1) w0 w) :
    ((w.setCell ⟨g + 1 + 1, 0, none⟩ u).setCell ⟨g + 1 + 1, 1, none⟩ v).cell? ⟨g, 0, none⟩ = some v0 ∧ ((w.setCell ⟨g + 1 + 1, 0, none⟩ u).setCell ⟨g + 1 + 1, 1, none⟩ v).cell? ⟨g, 1, none⟩ = some v1 ∧
      ((w.setCell ⟨g + 1 + 1, 0, none⟩ u).setCell ⟨g + 1 + 1, 1, none⟩ v).cell? ⟨g + 1, 0, none⟩ = some v2 ∧ ((w.setCell ⟨g + 1 + 1, 0, none⟩ u).setCell ⟨g + 1 + 1, 1, none⟩ v).cell? ⟨g + 1, 1, none⟩ = some v3 ∧
      g + 1 + 1 ≤ ((w.setCell ⟨g + 1 + 1, 0, none⟩ u).setCell ⟨g + 1 + 1, 1, none⟩ v).heap.size ∧ Below (g + 1 + 1) w0 ((w.setCell ⟨g + 1 + 1, 0, none⟩ u).setCell ⟨g + 1 + 1, 1, none⟩ v) := by
  obtain ⟨h0, h1, h2, h3, h4, h5⟩ := h
  refine ⟨?_, ?_, ?_, ?_, by simp [World.setCell]; exact h4, (h5.setCell (p := ⟨g + 1 + 1, 0, none⟩) (Nat.le_refl _) u).setCell (p := ⟨g + 1 + 1, 1, none⟩) (Nat.le_refl _) v⟩ <;>
    (rw [World.cell?_setCell_other _ _ _ _ (by simp <;> omega), World.cell?_setCell_other _ _ _ _ (by simp <;> omega)]; assumption)

theorem res_keep {w w' : World} {B : Nat} {u v : Value} (h : w.cell? ⟨B, 0, none⟩ = some u ∧ w.cell? ⟨B, 1, none⟩ = some v ∧ w.frozen? ⟨B, 0, none⟩ = false ∧ w.frozen? ⟨B, 1, none⟩ = false) (hb : Below w.heap.size w w') :
    w'.cell? ⟨B, 0, none⟩ = some u ∧ w'.cell? ⟨B, 1, none⟩ = some v ∧ w'.frozen? ⟨B, 0, none⟩ = false ∧ w'.frozen? ⟨B, 1, none⟩ = false := by
  obtain ⟨h4, h5, h6, h7⟩ := h
  exact ⟨cell_below hb h4, cell_below hb h5, (hb.frozen (p := ⟨B, 0, none⟩) (World.block_lt_of_cell? w _ h4)).trans h6, (hb.frozen (p := ⟨B, 1, none⟩) (World.block_lt_of_cell? w _ h5)).trans h7⟩

/-- What Add answers. -/
def AddOut (w : World) (x : Int) (L : Nat) (e : Ending) (w' : World) : Prop := ∃ v, e = .returned v ∧ IsBig w' v x L ∧ Below w.heap.size w w'

theorem add_fin {w w3 w6 w7 : World} {B g : Nat} {a6 : Option Addr} {n6 c6 m : Nat} {neg' : Bool} {cs : List Int} {z X : Int} {K LL : Nat} (hg : w.heap.size = g) (hs : g + 1 + 1 < w3.heap.size) (hbw3 : Below g w w3)
    (hown : Own w6 B (.slice a6 n6 c6) cs) (hB0 : g + 1 + 1 < B) (hb6 : Below w3.heap.size w3 w6) (hb7 : Below w6.heap.size w6 w7) (hm : m ≤ n6) (hB : IsBig w6 (.agg #[.slice a6 m c6, .bool neg']) z K) (hz : z = X) (hK : K ≤ LL) :
    AddOut w X LL (.returned (.agg #[.slice a6 m c6, .bool neg'])) ((w7.setCell ⟨g + 1 + 1, 0, none⟩ (.slice a6 m c6)).setCell ⟨g + 1 + 1, 1, none⟩ (.bool neg')) := by
  subst hz
  have h7 := hown.below hb7
  have h8 := h7.kept (grownBy_setCell w7 ⟨g + 1 + 1, 0, none⟩ (.slice a6 m c6)) (h7.not hB0)
  have h9 := h8.kept (grownBy_setCell _ ⟨g + 1 + 1, 1, none⟩ (.bool neg')) (h8.not hB0)
  have b6 := hbw3.trans (hb6.mono (by omega))
  have b7 := b6.trans (hb7.mono (by have := hb6.size; omega))
  exact ⟨_, rfl, (hB.mono hK).move hm hown.ints h9.ints, by rw [hg]; exact (b7.setCell (p := ⟨g + 1 + 1, 0, none⟩) (by simp; omega) _).setCell (p := ⟨g + 1 + 1, 1, none⟩) (by simp; omega) _⟩
end

section
open Go.RowKit
set_option linter.unusedVariables false
set_option maxRecDepth 100000

theorem of_step {n m : Int} {ds : List Int} (hd : Dg ds) (hm : m ≠ 0) (h : dval ds + pw ds.length * (m.natAbs : Int) = (n.natAbs : Int)) (hf : fitsI n = true) :
    ds.length ≤ 3 ∧ ((m.tmod 65536).natAbs : Int) < 65536 ∧ Dg (ds ++ [((m.tmod 65536).natAbs : Int)]) ∧ dval (ds ++ [((m.tmod 65536).natAbs : Int)]) + pw (ds ++ [((m.tmod 65536).natAbs : Int)]).length * ((m.tdiv 65536).natAbs : Int) = (n.natAbs : Int) ∧
      (m.tdiv 65536 = 0 → Nm (ds ++ [((m.tmod 65536).natAbs : Int)])) := by
  have e1 : ((m.tmod 65536).natAbs : Int) = (m.natAbs : Int) % 65536 := by rw [Int.natAbs_tmod]; rfl
  have e2 : ((m.tdiv 65536).natAbs : Int) = (m.natAbs : Int) / 65536 := by rw [Int.natAbs_tdiv]; rfl
  rw [e1, e2]
  have hp := dval_bd hd
  have hpw := pw_pos ds.length
  have hl : ds.length ≤ 3 := by
    by_cases hl : ds.length ≤ 3
    · exact hl
    · have h4 := pw_le (show 4 ≤ ds.length by omega)
      have e4 : pw 4 = 18446744073709551616 := by decide
      rw [fitsI_iff] at hf
      have : pw ds.length * 1 ≤ pw ds.length * (m.natAbs : Int) := Int.mul_le_mul_of_nonneg_left (by omega) (by omega)
      omega
  refine ⟨hl, by omega, hd.snoc (by omega) (by omega), ?_, ?_⟩
  · rw [dval_snoc, List.length_append, List.length_singleton, pw_add, show pw 1 = 65536 by decide, ← h, Int.mul_assoc]
    have := Int.emod_add_mul_ediv (m.natAbs : Int) 65536
    rw [Int.add_assoc, ← Int.mul_add]
    rw [this]
  · intro h0 _
    rw [List.length_append, List.length_singleton, Nat.add_sub_cancel, nth_append_here]
    have : ((m.tdiv 65536).natAbs : Int) = 0 := by rw [h0]; rfl
    rw [e2] at this
    omega

theorem of_div {m : Int} (hf : fitsI m = true) : wrap64 (m.tdiv 65536) = m.tdiv 65536 ∧ fitsI (m.tdiv 65536) = true ∧ (m ≠ 0 → (m.tdiv 65536).natAbs < m.natAbs) := by
  have e2 : ((m.tdiv 65536).natAbs : Int) = (m.natAbs : Int) / 65536 := by rw [Int.natAbs_tdiv]; rfl
  rw [fitsI_iff] at hf
  have h : -9223372036854775808 ≤ m.tdiv 65536 ∧ m.tdiv 65536 ≤ 9223372036854775807 := by omega
  exact ⟨wrap_id h.1 h.2, fitsI_iff.2 h, fun h0 => by omega⟩
theorem res_grown {w w' : World} {B : Nat} {r : Option Nat} {u v : Value} (h : w.cell? ⟨B, 0, none⟩ = some u ∧ w.cell? ⟨B, 1, none⟩ = some v ∧ w.frozen? ⟨B, 0, none⟩ = false ∧ w.frozen? ⟨B, 1, none⟩ = false) (hg : w.grownBy w' r) (hne : some B ≠ r) :
    w'.cell? ⟨B, 0, none⟩ = some u ∧ w'.cell? ⟨B, 1, none⟩ = some v ∧ w'.frozen? ⟨B, 0, none⟩ = false ∧ w'.frozen? ⟨B, 1, none⟩ = false := by
  obtain ⟨h4, h5, h6, h7⟩ := h
  exact ⟨hg.cell h4 hne, hg.cell h5 hne, (hg.frozen_far ⟨B, 0, none⟩ (World.block_lt_of_cell? w _ h4) hne).trans h6, (hg.frozen_far ⟨B, 1, none⟩ (World.block_lt_of_cell? w _ h5) hne).trans h7⟩
end

section
open Go.RowKit
set_option linter.unusedVariables false
set_option maxRecDepth 100000

theorem dval_drop_bd {ds : List Int} (h : Dg ds) (k : Nat) (hk : k ≤ ds.length) : 0 ≤ dval (ds.drop k) ∧ dval (ds.drop k) ≤ dval ds := by
  have h1 := dval_split ds k hk
  have h2 := (dval_bd (h.take k)).1
  have h3 := (dval_bd (h.drop k)).1
  have h4 := pw_pos k
  have : 1 * dval (ds.drop k) ≤ pw k * dval (ds.drop k) := Int.mul_le_mul_of_nonneg_right (by omega) h3
  exact ⟨h3, by omega⟩
theorem sumE_fit {x : Int} (h : fitsI x = true) : sumE x = (x, true) := by unfold sumE; rw [if_pos h]
theorem sumE_not {x : Int} (h : ¬ fitsI x = true) : sumE x = (0, false) := by unfold sumE; rw [if_neg h]

def IntOut (w : World) (x : Int) (e : Ending) (w' : World) : Prop := e = .returned (.tuple #[.int .i64 (sumE x).1, .bool (sumE x).2]) ∧ Below w.heap.size w w'
end

end Go.Proofs.Ytnhcgpkcmfelkaa
