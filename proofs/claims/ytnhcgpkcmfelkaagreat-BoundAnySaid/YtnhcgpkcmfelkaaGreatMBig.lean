/-
  My own work: plain facts on digits of 65536.
  My own work: tranterref01.plus, minus, size: their contracts.
  My own work: tranterref01.size, trim, Of: their contracts.
  My own work: numbers, moved from world to world.
  My own work: tranterref01.Add: its contract.
  My own work: tranterref01.Of: its contract.
  My own work: tranterref01.Int: its contract.
-/
import Derived.Test.YtnhcgpkcmfelkaaGreatMNum
import Derived.RegionTactic
import Derived.Deep.QuietTactic
import Derived.BigQuiet
import Derived.Deep.RegionHeld3
import Derived.Deep.AppendLies
namespace Go.Proofs.YtnhcgpkcmfelkaaGreat
section
open Go.RowKit
set_option linter.unusedVariables false
set_option maxRecDepth 100000

/-- 65536 to the k. -/
def pw : Nat → Int
  | 0 => 1
  | k + 1 => 65536 * pw k
theorem pw_pos (k : Nat) : 0 < pw k := by
  induction k with
  | zero => simp [pw]
  | succ k ih => simp only [pw]; omega
theorem pw_add (i j : Nat) : pw (i + j) = pw i * pw j := by
  induction i with
  | zero => simp [pw]
  | succ i ih => rw [Nat.succ_add]; simp only [pw]; rw [ih, Int.mul_assoc]
theorem pw_le {i j : Nat} (h : i ≤ j) : pw i ≤ pw j := by
  obtain ⟨k, rfl⟩ := Nat.exists_eq_add_of_le h
  rw [pw_add]
  have h1 := pw_pos i
  have h2 := pw_pos k
  have : pw i * 1 ≤ pw i * pw k := Int.mul_le_mul_of_nonneg_left (by omega) (by omega)
  omega

def dval : List Int → Int
  | [] => 0
  | d :: ds => d + 65536 * dval ds
def Dg (ds : List Int) : Prop := ∀ d ∈ ds, 0 ≤ d ∧ d < 65536
/-- No nought at the end. -/
def Nm (ds : List Int) : Prop := 0 < ds.length → nth ds (ds.length - 1) ≠ 0

theorem dval_append (xs ys : List Int) : dval (xs ++ ys) = dval xs + pw xs.length * dval ys := by
  induction xs with
  | nil => simp [dval, pw]
  | cons x xs ih =>
    simp only [List.cons_append, dval, List.length_cons, pw, ih, Int.mul_add, Int.mul_assoc]
    omega
theorem dval_snoc (xs : List Int) (y : Int) : dval (xs ++ [y]) = dval xs + pw xs.length * y := by rw [dval_append]; simp [dval]
theorem dval_bd {ds : List Int} (h : Dg ds) : 0 ≤ dval ds ∧ dval ds < pw ds.length := by
  induction ds with
  | nil => simp [dval, pw]
  | cons d ds ih =>
    have h1 := h d (List.mem_cons_self ..)
    have h2 := ih (fun x hx => h x (List.mem_cons_of_mem _ hx))
    simp only [dval, List.length_cons, pw]
    omega
theorem nth_dg {ds : List Int} (h : Dg ds) (k : Nat) : 0 ≤ nth ds k ∧ nth ds k < 65536 := by
  by_cases hk : k < ds.length
  · exact h _ (nth_mem hk)
  · have : nth ds k = 0 := by unfold nth; simp; rw [List.getElem?_eq_none (by omega)]; rfl
    omega
theorem nth_over {ds : List Int} {k : Nat} (h : ds.length ≤ k) : nth ds k = 0 := by unfold nth; simp; rw [List.getElem?_eq_none (by omega)]; rfl
theorem dval_take_succ (ds : List Int) (k : Nat) : dval (ds.take (k + 1)) = dval (ds.take k) + pw k * nth ds k := by
  by_cases hk : k < ds.length
  · rw [take_succ_nth ds k hk, dval_snoc]
    congr 2
    rw [List.length_take]; congr 1; omega
  · rw [List.take_of_length_le (by omega), List.take_of_length_le (by omega), nth_over (by omega), Int.mul_zero, Int.add_zero]
theorem Dg.snoc {ds : List Int} (h : Dg ds) {y : Int} (h0 : 0 ≤ y) (h1 : y < 65536) : Dg (ds ++ [y]) := by
  intro x hx
  rcases List.mem_append.1 hx with hx | hx
  · exact h x hx
  · simp at hx; subst hx; exact ⟨h0, h1⟩
theorem Dg.take {ds : List Int} (h : Dg ds) (k : Nat) : Dg (ds.take k) := fun x hx => h x (List.mem_of_mem_take hx)
theorem Dg.drop {ds : List Int} (h : Dg ds) (k : Nat) : Dg (ds.drop k) := fun x hx => h x (List.mem_of_mem_drop hx)
theorem Dg.nil : Dg [] := fun x hx => by simp at hx

/-- A number cut in two at digit k. -/
theorem dval_split (ds : List Int) (k : Nat) (h : k ≤ ds.length) : dval ds = dval (ds.take k) + pw k * dval (ds.drop k) := by
  have := dval_append (ds.take k) (ds.drop k)
  rw [List.take_append_drop, List.length_take, Nat.min_eq_left h] at this
  exact this
theorem drop_nth (ds : List Int) (k : Nat) (h : k < ds.length) : ds.drop k = nth ds k :: ds.drop (k + 1) := by
  rw [nth_lt h]; exact List.drop_eq_getElem_cons h
theorem dval_drop (ds : List Int) (k : Nat) (h : k < ds.length) : dval (ds.drop k) = nth ds k + 65536 * dval (ds.drop (k + 1)) := by
  rw [drop_nth ds k h]; rfl
theorem norm_ge {ds : List Int} (h : Dg ds) (hn : Nm ds) (hp : 0 < ds.length) : pw (ds.length - 1) ≤ dval ds := by
  rw [dval_split ds (ds.length - 1) (by omega), dval_drop ds _ (by omega)]
  have h1 := dval_bd (h.take (ds.length - 1))
  have h2 := nth_dg h (ds.length - 1)
  have h3 := hn hp
  have h4 := dval_bd (h.drop (ds.length - 1 + 1))
  have h5 := pw_pos (ds.length - 1)
  have : pw (ds.length - 1) * 1 ≤ pw (ds.length - 1) * (nth ds (ds.length - 1) + 65536 * dval (ds.drop (ds.length - 1 + 1))) :=
    Int.mul_le_mul_of_nonneg_left (by omega) (by omega)
  omega
theorem shorter_lt {xs ys : List Int} (ha : Dg xs) (hb : Dg ys) (hn : Nm ys) (h : xs.length < ys.length) : dval xs < dval ys := by
  have h1 := dval_bd ha
  have h2 := norm_ge hb hn (by omega)
  have h3 := pw_le (show xs.length ≤ ys.length - 1 by omega)
  omega
/-- The first digit from above that parts two numbers decides. -/
theorem digit_lt {xs ys : List Int} (ha : Dg xs) (hb : Dg ys) (hl : xs.length = ys.length) (k : Nat) (hk : k < xs.length) (hd : xs.drop (k + 1) = ys.drop (k + 1)) (h : nth xs k < nth ys k) : dval xs < dval ys := by
  rw [dval_split xs k (by omega), dval_split ys k (by omega), dval_drop xs k hk, dval_drop ys k (by omega), hd]
  have h1 := dval_bd (ha.take k)
  have h2 := dval_bd (hb.take k)
  rw [List.length_take, Nat.min_eq_left (by omega)] at h1
  have h5 := pw_pos k
  have : pw k * (nth xs k + 65536 * dval (ys.drop (k + 1)) + 1) ≤ pw k * (nth ys k + 65536 * dval (ys.drop (k + 1))) :=
    Int.mul_le_mul_of_nonneg_left (by omega) (by omega)
  rw [Int.mul_add, Int.mul_one] at this
  omega
end

section
open Go.RowKit
set_option linter.unusedVariables false
set_option maxRecDepth 100000

/-- One digit more of a sum. -/
theorem plus_step (xs ys cs : List Int) (k : Nat) (cy t : Int) (hx : Dg xs) (hy : Dg ys) (hc : Dg cs) (hl : cs.length = k) (h0 : 0 ≤ cy) (h1 : cy ≤ 1) (ht : t = cy + nth xs k + nth ys k)
    (hv : dval cs + pw k * cy = dval (xs.take k) + dval (ys.take k)) :
    Dg (cs ++ [t % 65536]) ∧ 0 ≤ t / 65536 ∧ t / 65536 ≤ 1 ∧ dval (cs ++ [t % 65536]) + pw (k + 1) * (t / 65536) = dval (xs.take (k + 1)) + dval (ys.take (k + 1)) := by
  have b1 := nth_dg hx k
  have b2 := nth_dg hy k
  refine ⟨hc.snoc (by omega) (by omega), by omega, by omega, ?_⟩
  rw [dval_snoc, hl, dval_take_succ, dval_take_succ, pw]
  have e : t % 65536 + 65536 * (t / 65536) = t := by omega
  have : pw k * (t % 65536) + 65536 * pw k * (t / 65536) = pw k * cy + pw k * nth xs k + pw k * nth ys k := by
    rw [Int.mul_comm 65536 (pw k), Int.mul_assoc, ← Int.mul_add, e, ht, Int.mul_add, Int.mul_add]
  omega

set_option maxHeartbeats 1600000 in
theorem plus_is (va vb : Value) (xs ys : List Int) (w : World) (ha : Ints w va xs) (hb : Ints w vb ys) (hx : Dg xs) (hy : Dg ys) (hlx : xs.length ≤ 1000) (hly : ys.length ≤ 1000) :
    Calls Tryz.prog 126 #[va, vb] w fun e w' => ∃ v cs, e = .returned v ∧ Own w' w.heap.size v cs ∧ Dg cs ∧ dval cs = dval xs + dval ys ∧ cs.length ≤ max xs.length ys.length + 1 ∧ Below w.heap.size w w' := by
  obtain ⟨a, n, c, rfl, hn, _, hcell⟩ := ha.open
  obtain ⟨a', n', c', rfl, hn', _, hcell'⟩ := hb.open
  have Hn := Lib.hid hn
  have Hn' := Lib.hid hn'
  have Hcell := Lib.hid hcell
  have Hcell' := Lib.hid hcell'
  have Hx := Lib.hid hx
  have Hy := Lib.hid hy
  have hl1 : n ≤ 1000 := by omega
  have hl2 : n' ≤ 1000 := by omega
  obtain ⟨M, hM⟩ : ∃ M, M = max n n' := ⟨_, rfl⟩
  have hM1 : n ≤ M := by omega
  have hM2 : n' ≤ M := by omega
  have hM3 : M ≤ 1000 := by omega
  have HM := Lib.hid hM
  clear hn hn' ha hb hcell hcell' hx hy hlx hly hM
  go_enter Tryz.func126, Tryz.ntmps126
  go_wp2_with fail
  go_loopw [5, 6, 7] (fun u t i wr => ∃ (k : Nat) (v : Value) (cs : List Int) (cy : Int), k ≤ M + 1 ∧ v = u ∧ i = .int .i64 k ∧ t = .int .i64 cy ∧ 0 ≤ cy ∧ cy ≤ 1 ∧ (k = M + 1 → cy = 0) ∧ Own wr w.heap.size v cs ∧ cs.length = k ∧ Dg cs ∧
      dval cs + pw k * cy = dval (xs.take k) + dval (ys.take k) ∧ Below w.heap.size w wr) (fun _ _ i _ => M + 1 - (intOf i).toNat)
  case atStart => exact ⟨0, _, [], 0, Nat.zero_le _, rfl, rfl, rfl, by omega, by omega, fun h => rfl, Own.nil _ _, rfl, Dg.nil, by simp [dval], Below.refl _ _⟩
  case round =>
    obtain ⟨k, v, cs, cy, hk, rfl, rfl, rfl, hc0, hc1, hend, hown, hl, hdg, hv, hb⟩ := hrel
    have Hend := Lib.hid hend
    have Hl := Lib.hid hl
    have Hdg := Lib.hid hdg
    have Hv := Lib.hid hv
    clear hend hl hdg hv
    obtain ⟨A, hA⟩ : ∃ A, A = nth xs k := ⟨_, rfl⟩
    obtain ⟨B, hB⟩ : ∃ B, B = nth ys k := ⟨_, rfl⟩
    have bA := nth_dg Hx.out k
    have bB := nth_dg Hy.out k
    rw [← hA] at bA
    rw [← hB] at bB
    obtain ⟨bA1, bA2⟩ := bA
    obtain ⟨bB1, bB2⟩ := bB
    by_cases h1 : k < n
    · obtain ⟨b, o, rfl, hcx0⟩ := Hcell.out k h1
      have hcx := cell_below hb hcx0
      rw [← hA] at hcx
      have HA := Lib.hid hA
      clear hcx0 hA
      by_cases h2 : k < n'
      · obtain ⟨b', o', rfl, hcy0⟩ := Hcell'.out k h2
        have hcy := cell_below hb hcy0
        rw [← hB] at hcy
        have HB := Lib.hid hB
        clear hcy0 hB
        have hst := Lib.hid (plus_step xs ys cs k cy (cy + A + B) Hx.out Hy.out Hdg.out Hl.out hc0 hc1 (by rw [HA.out, HB.out]) Hv.out)
        go_wp2_with (at_builtin; refine wpList_push rfl _ _ rfl wr w.heap.size v cs ((cy + A + B) % 65536) rfl rfl hown (by have := Hl.out; omega) hb.size ?_)
        intro v' w5 hown5 g5 hb5
        have hb5' := hb.trans hb5
        have hlen5 : (cs ++ [(cy + A + B) % 65536]).length = k + 1 := by rw [List.length_append, Hl.out]; rfl
        have Hf := Lib.hid hlen5
        clear hcx hcy g5 hb5 hlen5
        go_wp2_with fail
        go_roundw
        case rel => exact ⟨k + 1, _, _, (cy + A + B) / 65536, by omega, rfl, by go_num, rfl, hst.out.2.1, hst.out.2.2.1, fun h => by omega, hown5, Hf.out, hst.out.1, hst.out.2.2.2, hb5'⟩
        case measure => simp [intOf]; omega
      · have hB0 : B = 0 := by rw [hB]; exact nth_over (by rw [Hn'.out]; omega)
        rw [hB0] at hB
        have HB := Lib.hid hB
        have HA' := HA.out
        clear hB hB0 HA
        have HA := Lib.hid HA'
        clear HA'
        have hst := Lib.hid (plus_step xs ys cs k cy (cy + A) Hx.out Hy.out Hdg.out Hl.out hc0 hc1 (by rw [HA.out, ← HB.out]; omega) Hv.out)
        go_wp2_with (at_builtin; refine wpList_push rfl _ _ rfl wr w.heap.size v cs ((cy + A) % 65536) rfl rfl hown (by have := Hl.out; omega) hb.size ?_)
        intro v' w5 hown5 g5 hb5
        have hb5' := hb.trans hb5
        have hlen5 : (cs ++ [(cy + A) % 65536]).length = k + 1 := by rw [List.length_append, Hl.out]; rfl
        have Hf := Lib.hid hlen5
        clear hcx g5 hb5 hlen5
        go_wp2_with fail
        go_roundw
        case rel => exact ⟨k + 1, _, _, (cy + A) / 65536, by omega, rfl, by go_num, rfl, hst.out.2.1, hst.out.2.2.1, fun h => by omega, hown5, Hf.out, hst.out.1, hst.out.2.2.2, hb5'⟩
        case measure => simp [intOf]; omega
    · have hA0 : A = 0 := by rw [hA]; exact nth_over (by rw [Hn.out]; omega)
      rw [hA0] at hA
      have HA := Lib.hid hA
      clear hA hA0
      by_cases h2 : k < n'
      · obtain ⟨b', o', rfl, hcy0⟩ := Hcell'.out k h2
        have hcy := cell_below hb hcy0
        rw [← hB] at hcy
        have HB := Lib.hid hB
        clear hcy0 hB
        have hst := Lib.hid (plus_step xs ys cs k cy (cy + B) Hx.out Hy.out Hdg.out Hl.out hc0 hc1 (by rw [← HA.out, HB.out]; omega) Hv.out)
        go_wp2_with (at_builtin; refine wpList_push rfl _ _ rfl wr w.heap.size v cs ((cy + B) % 65536) rfl rfl hown (by have := Hl.out; omega) hb.size ?_)
        intro v' w5 hown5 g5 hb5
        have hb5' := hb.trans hb5
        have hlen5 : (cs ++ [(cy + B) % 65536]).length = k + 1 := by rw [List.length_append, Hl.out]; rfl
        have Hf := Lib.hid hlen5
        clear hcy g5 hb5 hlen5
        go_wp2_with fail
        go_roundw
        case rel => exact ⟨k + 1, _, _, (cy + B) / 65536, by omega, rfl, by go_num, rfl, hst.out.2.1, hst.out.2.2.1, fun h => by omega, hown5, Hf.out, hst.out.1, hst.out.2.2.2, hb5'⟩
        case measure => simp [intOf]; omega
      · have hB0 : B = 0 := by rw [hB]; exact nth_over (by rw [Hn'.out]; omega)
        rw [hB0] at hB
        have HB := Lib.hid hB
        clear hB hB0
        by_cases h3 : 0 < cy
        · have hkM : k < M + 1 := by
            have := Hend.out
            have := HM.out
            omega
          have hst := Lib.hid (plus_step xs ys cs k cy cy Hx.out Hy.out Hdg.out Hl.out hc0 hc1 (by rw [← HA.out, ← HB.out]; omega) Hv.out)
          go_wp2_with (at_builtin; refine wpList_push rfl _ _ rfl wr w.heap.size v cs (cy % 65536) rfl rfl hown (by have := Hl.out; omega) hb.size ?_)
          intro v' w5 hown5 g5 hb5
          have hb5' := hb.trans hb5
          have hlen5 : (cs ++ [cy % 65536]).length = k + 1 := by rw [List.length_append, Hl.out]; rfl
          have Hf := Lib.hid hlen5
          clear g5 hb5 hlen5
          go_wp2_with fail
          go_roundw
          case rel => exact ⟨k + 1, _, _, cy / 65536, by omega, rfl, by go_num, rfl, hst.out.2.1, hst.out.2.2.1, fun h => by omega, hown5, Hf.out, hst.out.1, hst.out.2.2.2, hb5'⟩
          case measure => simp [intOf]; omega
        · have hcy0 : cy = 0 := by omega
          subst hcy0
          have hfin : dval cs = dval xs + dval ys := by
            have := Hv.out
            rw [Int.mul_zero, Int.add_zero, List.take_of_length_le (by rw [Hn.out]; omega), List.take_of_length_le (by rw [Hn'.out]; omega)] at this
            exact this
          have Hfin := Lib.hid hfin
          clear hfin
          go_wp2_with fail
          go_ret
          refine ⟨_, rfl, cs, hown, Hdg.out, Hfin.out, ?_, hb⟩
          have := HM.out
          rw [Hn.out, Hn'.out, Hl.out]; omega

/-- One digit more of a difference. -/
theorem minus_step (xs ys cs : List Int) (k : Nat) (bo t : Int) (hx : Dg xs) (hy : Dg ys) (hc : Dg cs) (hl : cs.length = k) (h0 : 0 ≤ bo) (h1 : bo ≤ 1) (ht : t = nth xs k - bo - nth ys k)
    (hv : dval cs - pw k * bo = dval (xs.take k) - dval (ys.take k)) :
    (0 ≤ t → Dg (cs ++ [t]) ∧ dval (cs ++ [t]) - pw (k + 1) * 0 = dval (xs.take (k + 1)) - dval (ys.take (k + 1))) ∧
    (t < 0 → Dg (cs ++ [t + 65536]) ∧ dval (cs ++ [t + 65536]) - pw (k + 1) * 1 = dval (xs.take (k + 1)) - dval (ys.take (k + 1))) := by
  have b1 := nth_dg hx k
  have b2 := nth_dg hy k
  constructor
  · intro h
    refine ⟨hc.snoc (by omega) (by omega), ?_⟩
    rw [dval_snoc, hl, dval_take_succ, dval_take_succ, ht, Int.mul_sub, Int.mul_sub]
    omega
  · intro h
    refine ⟨hc.snoc (by omega) (by omega), ?_⟩
    rw [dval_snoc, hl, dval_take_succ, dval_take_succ, ht, Int.mul_add, Int.mul_sub, Int.mul_sub, pw, Int.mul_comm 65536 (pw k)]
    omega

set_option maxHeartbeats 1600000 in
theorem minus_is (va vb : Value) (xs ys : List Int) (w : World) (ha : Ints w va xs) (hb : Ints w vb ys) (hx : Dg xs) (hy : Dg ys) (hlx : xs.length ≤ 1000) (hly : ys.length ≤ xs.length) (hle : dval ys ≤ dval xs) :
    Calls Tryz.prog 127 #[va, vb] w fun e w' => ∃ v cs, e = .returned v ∧ Own w' w.heap.size v cs ∧ Dg cs ∧ dval cs = dval xs - dval ys ∧ cs.length = xs.length ∧ Below w.heap.size w w' := by
  obtain ⟨a, n, c, rfl, hn, _, hcell⟩ := ha.open
  obtain ⟨a', n', c', rfl, hn', _, hcell'⟩ := hb.open
  have Hn := Lib.hid hn
  have Hn' := Lib.hid hn'
  have Hcell := Lib.hid hcell
  have Hcell' := Lib.hid hcell'
  have Hx := Lib.hid hx
  have Hy := Lib.hid hy
  have Hle := Lib.hid hle
  have hl1 : n ≤ 1000 := by omega
  have hl2 : n' ≤ n := by omega
  clear hn hn' ha hb hcell hcell' hx hy hlx hly hle
  go_enter Tryz.func127, Tryz.ntmps127
  go_wp2_with fail
  go_loopw [5, 6, 7] (fun u t i wr => ∃ (k : Nat) (v : Value) (cs : List Int) (bo : Int), k ≤ n ∧ v = u ∧ i = .int .i64 k ∧ t = .int .i64 bo ∧ 0 ≤ bo ∧ bo ≤ 1 ∧ Own wr w.heap.size v cs ∧ cs.length = k ∧ Dg cs ∧
      dval cs - pw k * bo = dval (xs.take k) - dval (ys.take k) ∧ Below w.heap.size w wr) (fun _ _ i _ => n - (intOf i).toNat)
  case atStart => exact ⟨0, _, [], 0, Nat.zero_le _, rfl, rfl, rfl, by omega, by omega, Own.nil _ _, rfl, Dg.nil, by simp [dval], Below.refl _ _⟩
  case round =>
    obtain ⟨k, v, cs, bo, hk, rfl, rfl, rfl, hc0, hc1, hown, hl, hdg, hv, hb⟩ := hrel
    have Hl := Lib.hid hl
    have Hdg := Lib.hid hdg
    have Hv := Lib.hid hv
    clear hl hdg hv
    by_cases h1 : k < n
    · obtain ⟨b, o, rfl, hcx0⟩ := Hcell.out k h1
      have hcx := cell_below hb hcx0
      obtain ⟨A, hA⟩ : ∃ A, A = nth xs k := ⟨_, rfl⟩
      obtain ⟨B, hB⟩ : ∃ B, B = nth ys k := ⟨_, rfl⟩
      have bA := nth_dg Hx.out k
      have bB := nth_dg Hy.out k
      rw [← hA] at bA hcx
      rw [← hB] at bB
      obtain ⟨bA1, bA2⟩ := bA
      obtain ⟨bB1, bB2⟩ := bB
      have HA := Lib.hid hA
      clear hcx0 hA
      by_cases h2 : k < n'
      · obtain ⟨b', o', rfl, hcy0⟩ := Hcell'.out k h2
        have hcy := cell_below hb hcy0
        rw [← hB] at hcy
        have HB := Lib.hid hB
        clear hcy0 hB
        have hst := Lib.hid (minus_step xs ys cs k bo (A - bo - B) Hx.out Hy.out Hdg.out Hl.out hc0 hc1 (by rw [HA.out, HB.out]) Hv.out)
        by_cases h3 : A - bo - B < 0
        · have h3' := h3
          have Hst2 := Lib.hid (hst.out.2 (by omega))
          clear h3'
          go_wp2_with (at_builtin; refine wpList_push rfl _ _ rfl wr w.heap.size v cs (A - bo - B + 65536) rfl rfl hown (by have := Hl.out; omega) hb.size ?_)
          intro v' w5 hown5 g5 hb5
          have hb5' := hb.trans hb5
          have hlen5 : (cs ++ [A - bo - B + 65536]).length = k + 1 := by rw [List.length_append, Hl.out]; rfl
          have Hf := Lib.hid hlen5
          clear hcx hcy g5 hb5 hlen5
          go_wp2_with fail
          go_roundw
          case rel => exact ⟨k + 1, _, _, 1, by omega, rfl, by go_num, rfl, by omega, by omega, hown5, Hf.out, Hst2.out.1, Hst2.out.2, hb5'⟩
          case measure => simp [intOf]; omega
        · have h3' := h3
          have Hst2 := Lib.hid (hst.out.1 (by omega))
          clear h3'
          go_wp2_with (at_builtin; refine wpList_push rfl _ _ rfl wr w.heap.size v cs (A - bo - B) rfl rfl hown (by have := Hl.out; omega) hb.size ?_)
          intro v' w5 hown5 g5 hb5
          have hb5' := hb.trans hb5
          have hlen5 : (cs ++ [A - bo - B]).length = k + 1 := by rw [List.length_append, Hl.out]; rfl
          have Hf := Lib.hid hlen5
          clear hcx hcy g5 hb5 hlen5
          go_wp2_with fail
          go_roundw
          case rel => exact ⟨k + 1, _, _, 0, by omega, rfl, by go_num, rfl, by omega, by omega, hown5, Hf.out, Hst2.out.1, Hst2.out.2, hb5'⟩
          case measure => simp [intOf]; omega
      · have hB0 : B = 0 := by rw [hB]; exact nth_over (by rw [Hn'.out]; omega)
        rw [hB0] at hB
        have HB := Lib.hid hB
        clear hB hB0
        have hst := Lib.hid (minus_step xs ys cs k bo (A - bo) Hx.out Hy.out Hdg.out Hl.out hc0 hc1 (by rw [HA.out, ← HB.out]; omega) Hv.out)
        by_cases h3 : A - bo < 0
        · have h3' := h3
          have Hst2 := Lib.hid (hst.out.2 (by omega))
          clear h3'
          go_wp2_with (at_builtin; refine wpList_push rfl _ _ rfl wr w.heap.size v cs (A - bo + 65536) rfl rfl hown (by have := Hl.out; omega) hb.size ?_)
          intro v' w5 hown5 g5 hb5
          have hb5' := hb.trans hb5
          have hlen5 : (cs ++ [A - bo + 65536]).length = k + 1 := by rw [List.length_append, Hl.out]; rfl
          have Hf := Lib.hid hlen5
          clear hcx g5 hb5 hlen5
          go_wp2_with fail
          go_roundw
          case rel => exact ⟨k + 1, _, _, 1, by omega, rfl, by go_num, rfl, by omega, by omega, hown5, Hf.out, Hst2.out.1, Hst2.out.2, hb5'⟩
          case measure => simp [intOf]; omega
        · have h3' := h3
          have Hst2 := Lib.hid (hst.out.1 (by omega))
          clear h3'
          go_wp2_with (at_builtin; refine wpList_push rfl _ _ rfl wr w.heap.size v cs (A - bo) rfl rfl hown (by have := Hl.out; omega) hb.size ?_)
          intro v' w5 hown5 g5 hb5
          have hb5' := hb.trans hb5
          have hlen5 : (cs ++ [A - bo]).length = k + 1 := by rw [List.length_append, Hl.out]; rfl
          have Hf := Lib.hid hlen5
          clear hcx g5 hb5 hlen5
          go_wp2_with fail
          go_roundw
          case rel => exact ⟨k + 1, _, _, 0, by omega, rfl, by go_num, rfl, by omega, by omega, hown5, Hf.out, Hst2.out.1, Hst2.out.2, hb5'⟩
          case measure => simp [intOf]; omega
    · have hkn : k = n := by omega
      have hfin : dval cs = dval xs - dval ys := by
        have h := Hv.out
        rw [List.take_of_length_le (by rw [Hn.out]; omega), List.take_of_length_le (by rw [Hn'.out]; omega)] at h
        have h2 := dval_bd Hdg.out
        rw [Hl.out] at h2
        have h3 := Hle.out
        rcases (by omega : bo = 0 ∨ bo = 1) with h4 | h4
        · rw [h4, Int.mul_zero] at h; omega
        · rw [h4, Int.mul_one] at h; omega
      have Hfin := Lib.hid hfin
      have Hkn := Lib.hid hkn
      clear hfin hkn
      go_wp2_with fail
      go_ret
      exact ⟨_, cs, rfl, hown, Hdg.out, Hfin.out, by rw [Hl.out, Hn.out, Hkn.out], hb⟩
end

section
open Go.RowKit
set_option linter.unusedVariables false
set_option maxRecDepth 100000

def cmpI (x y : Int) : Int := if x < y then -1 else if y < x then 1 else 0
theorem cmpI_lt {x y : Int} (h : x < y) : cmpI x y = -1 := by unfold cmpI; rw [if_pos h]
theorem cmpI_gt {x y : Int} (h : y < x) : cmpI x y = 1 := by unfold cmpI; rw [if_neg (by omega), if_pos h]
theorem cmpI_eq {x y : Int} (h : x = y) : cmpI x y = 0 := by unfold cmpI; rw [if_neg (by omega), if_neg (by omega)]

set_option maxHeartbeats 1600000 in
theorem size_is (va vb : Value) (xs ys : List Int) (w : World) (ha : Ints w va xs) (hb : Ints w vb ys) (hx : Dg xs) (hy : Dg ys) (hnx : Nm xs) (hny : Nm ys) :
    Calls Tryz.prog 124 #[va, vb] w fun e w' => e = .returned (.int .i64 (cmpI (dval xs) (dval ys))) ∧ Below w.heap.size w w' := by
  obtain ⟨a, n, c, rfl, hn, hmax, hcell⟩ := ha.open
  obtain ⟨a', n', c', rfl, hn', hmax', hcell'⟩ := hb.open
  have Hn := Lib.hid hn
  have Hn' := Lib.hid hn'
  have Hcell := Lib.hid hcell
  have Hcell' := Lib.hid hcell'
  have Hx := Lib.hid hx
  have Hy := Lib.hid hy
  have Hnx := Lib.hid hnx
  have Hny := Lib.hid hny
  clear hn hn' ha hb hcell hcell' hx hy hnx hny hmax'
  by_cases hne : n = n'
  rotate_left
  · have hne' : ((n : Int) != (n' : Int)) = true := by rw [bne_iff_ne]; omega
    by_cases hlt : n < n'
    · have Hc : Hid (cmpI (dval xs) (dval ys) = -1) := cmpI_lt (shorter_lt Hx.out Hy.out Hny.out (by rw [Hn.out, Hn'.out]; exact hlt))
      go_enter Tryz.func124, Tryz.ntmps124
      go_wp2_with fail
      go_ret
      rw [Hc.out]
      exact ⟨rfl, Below.refl _ _⟩
    · have Hc : Hid (cmpI (dval xs) (dval ys) = 1) := cmpI_gt (shorter_lt Hy.out Hx.out Hnx.out (by rw [Hn.out, Hn'.out]; omega))
      go_enter Tryz.func124, Tryz.ntmps124
      go_wp2_with fail
      go_ret
      rw [Hc.out]
      exact ⟨rfl, Below.refl _ _⟩
  · subst hne
    go_enter Tryz.func124, Tryz.ntmps124
    go_wp2_with fail
    go_loopw [5] (fun i wr => ∃ k : Nat, k ≤ n ∧ i = .int .i64 ((k : Int) - 1) ∧ xs.drop k = ys.drop k ∧ Below w.heap.size w wr) (fun i _ => (intOf i + 1).toNat)
    case atStart => exact ⟨n, Nat.le_refl _, rfl, by rw [List.drop_of_length_le (by rw [Hn.out]; omega), List.drop_of_length_le (by rw [Hn'.out]; omega)], Below.refl _ _⟩
    case round =>
      obtain ⟨k, hk, rfl, hd, hbw⟩ := hrel
      have Hd := Lib.hid hd
      clear hd
      by_cases hk0 : 1 ≤ k
      · obtain ⟨i, rfl⟩ : ∃ i, k = i + 1 := ⟨k - 1, by omega⟩
        rw [show ((i + 1 : Nat) : Int) - 1 = (i : Int) by omega]
        obtain ⟨b, o, rfl, hc0⟩ := Hcell.out i (by omega)
        obtain ⟨b', o', rfl, hc0'⟩ := Hcell'.out i (by omega)
        have hc := cell_below hbw hc0
        have hc' := cell_below hbw hc0'
        clear hc0 hc0'
        have hi0 : (0 : Int) ≤ (i : Int) := by omega
        have hi1 : (i : Int) < (n : Int) := by omega
        by_cases h1 : nth xs i < nth ys i
        · have Hc : Hid (cmpI (dval xs) (dval ys) = -1) := cmpI_lt (digit_lt Hx.out Hy.out (by rw [Hn.out, Hn'.out]) i (by rw [Hn.out]; omega) Hd.out h1)
          have h1' : decide (nth xs i < nth ys i) = true := by simpa using h1
          clear h1
          go_wp2_with fail
          go_quiet (fail)
          go_wp2_with fail
          go_ret
          rw [Hc.out]
          exact ⟨rfl, below_drewN hbw nq⟩
        have h1' : decide (nth xs i < nth ys i) = false := by simpa using h1
        by_cases h2 : nth ys i < nth xs i
        · have Hc : Hid (cmpI (dval xs) (dval ys) = 1) := cmpI_gt (digit_lt Hy.out Hx.out (by rw [Hn.out, Hn'.out]) i (by rw [Hn'.out]; omega) Hd.out.symm h2)
          have h2' : decide (nth ys i < nth xs i) = true := by simpa using h2
          clear h1 h2
          go_wp2_with fail
          go_quiet (fail)
          go_wp2_with fail
          go_quiet (fail)
          go_wp2_with fail
          go_ret
          rw [Hc.out]
          exact ⟨rfl, by first | exact below_drewN hbw _ | exact below_drewN (below_drewN hbw _) _⟩
        · have h2' : decide (nth ys i < nth xs i) = false := by simpa using h2
          have heq : nth xs i = nth ys i := by omega
          have Heq := Lib.hid heq
          clear h1 h2 heq
          go_wp2_with fail
          go_quiet (fail)
          go_wp2_with fail
          go_quiet (fail)
          go_wp2_with fail
          go_roundw
          case rel => exact ⟨i, by omega, by go_num, by rw [drop_nth xs i (by rw [Hn.out]; omega), drop_nth ys i (by rw [Hn'.out]; omega), Heq.out, Hd.out], by first | exact below_drewN hbw _ | exact below_drewN (below_drewN hbw _) _⟩
          case measure => simp [intOf]
      · have hk' : k = 0 := by omega
        subst hk'
        have Hc : Hid (cmpI (dval xs) (dval ys) = 0) := cmpI_eq (by have := Hd.out; simp only [List.drop_zero] at this; rw [this])
        clear hk0
        go_wp2_with fail
        go_ret
        rw [Hc.out]
        exact ⟨rfl, hbw⟩

/-! ### trim, Of, Neg, Add, Times, Int, Below: numbers -/
/-- The value v is the number x, of at most L digits. -/
def IsBig (w : World) (v : Value) (x : Int) (L : Nat) : Prop :=
  ∃ dv ds, v = .agg #[dv, .bool (decide (x < 0))] ∧ Ints w dv ds ∧ Dg ds ∧ Nm ds ∧ dval ds = (x.natAbs : Int) ∧ ds.length ≤ L
theorem IsBig.below {w w' : World} {v : Value} {x : Int} {L : Nat} (h : IsBig w v x L) (hb : Below w.heap.size w w') : IsBig w' v x L := by
  obtain ⟨dv, ds, h1, h2, h3⟩ := h
  exact ⟨dv, ds, h1, h2.below hb, h3⟩
theorem IsBig.mono {w : World} {v : Value} {x : Int} {L L' : Nat} (h : IsBig w v x L) (hl : L ≤ L') : IsBig w v x L' := by
  obtain ⟨dv, ds, h1, h2, h3, h4, h5, h6⟩ := h
  exact ⟨dv, ds, h1, h2, h3, h4, h5, by omega⟩

/-- A struct of two cells, boxed. -/
theorem box_two (w : World) (v0 v1 : Value) (T : TypeId) :
    ∃ w1, w.alloc (.cells #[v0, v1] T) = w1 ∧ Below w.heap.size w w1 ∧ w1.heap.size = w.heap.size + 1 ∧ w1.cell? ⟨w.heap.size, 0, none⟩ = some v0 ∧ w1.cell? ⟨w.heap.size, 1, none⟩ = some v1 ∧
      w1.frozen? ⟨w.heap.size, 0, none⟩ = false ∧ w1.frozen? ⟨w.heap.size, 1, none⟩ = false :=
  ⟨_, rfl, (Below.refl _ _).alloc (Nat.le_refl _) _, by simp, by simp [go_sem], by simp [go_sem], by simp [go_sem], by simp [go_sem]⟩

/-- How long the slice in a cell is. -/
def lenAt : Option Value → Nat
  | some (.slice _ m _) => m
  | _ => 0
theorem trim_zero {ds : List Int} {m : Nat} (h0 : nth ds m = 0) : dval (ds.take (m + 1)) = dval (ds.take m) := by rw [dval_take_succ, h0, Int.mul_zero, Int.add_zero]
theorem nm_take {ds : List Int} {m : Nat} (hm : m + 1 ≤ ds.length) (h0 : nth ds m ≠ 0) : Nm (ds.take (m + 1)) := by
  intro _
  rw [List.length_take, Nat.min_eq_left hm, Nat.add_sub_cancel, nth_take (by omega)]
  exact h0
theorem nm_nil : Nm [] := fun h => by simp at h

theorem two_set (w : World) (B : Nat) (u v u' v' : Value) (h0 : w.cell? ⟨B, 0, none⟩ = some u') (h1 : w.cell? ⟨B, 1, none⟩ = some v') :
    (w.setCell ⟨B, 0, none⟩ u).cell? ⟨B, 0, none⟩ = some u ∧ ((w.setCell ⟨B, 0, none⟩ u).setCell ⟨B, 1, none⟩ v).cell? ⟨B, 1, none⟩ = some v := by
  have hs := World.block_lt_of_cell? w _ h0
  constructor
  · simp [go_sem, h0]
  · simp [go_sem, h1]
/-- With a sign. -/
def sg (neg : Bool) (x : Int) : Int := if neg = true then -x else x
theorem dval_pos {ds : List Int} (h : Dg ds) (hn : Nm ds) (hp : 0 < ds.length) : 0 < dval ds := by
  have h1 := norm_ge h hn hp
  have h2 := pw_pos (ds.length - 1)
  omega
theorem sg_neg {neg : Bool} {x : Int} (h : 0 < x) : decide (sg neg x < 0) = neg := by
  cases neg <;> simp [sg] <;> omega
theorem sg_abs {neg : Bool} {x : Int} (h : 0 ≤ x) : x = ((sg neg x).natAbs : Int) := by
  cases neg <;> simp [sg] <;> omega
theorem IsBig.of_sg {w : World} {dv : Value} {ds : List Int} {neg : Bool} {L : Nat} (h : Ints w dv ds) (hg : Dg ds) (hn : Nm ds) (hp : 0 < ds.length) (hl : ds.length ≤ L) : IsBig w (.agg #[dv, .bool neg]) (sg neg (dval ds)) L :=
  ⟨dv, ds, by rw [sg_neg (dval_pos hg hn hp)], h, hg, hn, sg_abs (dval_bd hg).1, hl⟩
theorem IsBig.zero {w : World} {dv : Value} {neg : Bool} {x : Int} {L : Nat} (h : Ints w dv []) (hx : x = 0) : IsBig w (.agg #[dv, .bool false]) (sg neg x) L := by
  subst hx
  refine ⟨dv, [], ?_, h, Dg.nil, nm_nil, ?_, by simp⟩ <;> cases neg <;> simp [sg, dval]

/-- What trim answers. -/
def TrimOut (w : World) (a : Option Addr) (n c : Nat) (x : Int) (L : Nat) (e : Ending) (w' : World) : Prop :=
  ∃ m neg', e = .returned (.agg #[.slice a m c, .bool neg']) ∧ m ≤ n ∧ IsBig w (.agg #[.slice a m c, .bool neg']) x L ∧ Below w.heap.size w w'

set_option maxHeartbeats 1600000 in
/-- trim: the same number without noughts at the end; 0 is not below 0. -/
theorem trim_is (a : Option Addr) (n c : Nat) (ds : List Int) (neg : Bool) (w : World) (hd : Ints w (.slice a n c) ds) (hdg : Dg ds) :
    Calls Tryz.prog 125 #[.agg #[.slice a n c, .bool neg]] w (TrimOut w a n c (sg neg (dval ds)) ds.length) := by
  obtain ⟨w1, ew, hb1, hs1, c0, c1, f0, f1⟩ := box_two w (.slice a n c) (.bool neg) 144
  have hd1 := hd.below hb1
  obtain ⟨a', n', c', he, hn, hmax, _⟩ := hd1.open
  simp only [Value.slice.injEq] at he
  obtain ⟨rfl, rfl, rfl⟩ := he
  have hcap := hd1.cap.1
  have Hew := Lib.hid ew
  have Hn := Lib.hid hn
  have Hdg := Lib.hid hdg
  have Hd : Hid (Ints w (.slice a n c) ds) := Lib.hid hd
  have Hcap : Hid (c ≤ 9223372036854775807) := hd1.cap.2
  have Hd1 := Lib.hid hd1
  have Hcw : Hid (∀ k, k < n → ∃ b o, a = some ⟨b, o, none⟩ ∧ b < w.heap.size ∧ w.cell? ⟨b, o + k, none⟩ = some (.int .i64 (nth ds k))) := by
    obtain ⟨a', n', c', he, hn', _, hcc⟩ := hd.open
    simp only [Value.slice.injEq] at he
    obtain ⟨rfl, rfl, rfl⟩ := he
    intro k hk
    obtain ⟨b, o, h1, h2⟩ := hcc k hk
    exact ⟨b, o, h1, World.block_lt_of_cell? w _ h2, h2⟩
  clear ew hn hd hd1 hdg
  go_enter Tryz.func125, Tryz.ntmps125
  go_wp2_with fail
  rw [Hew.out]
  have hl0 : w.heap.size < w1.heap.size := by omega
  obtain ⟨w2, ew2, hb2, hs2, e0, e1, k0, k1⟩ := box_two w1 (.slice none 0 0) (.bool false) 144
  rw [ew2]
  have d0 := cell_below hb2 c0
  have d1 := cell_below hb2 c1
  have r0 := (hb2.frozen (p := ⟨w.heap.size, 0, none⟩) hl0).trans f0
  have r1 := (hb2.frozen (p := ⟨w.heap.size, 1, none⟩) hl0).trans f1
  have hbw2 := hb1.trans (hb2.mono hb1.size)
  rw [hs1] at e0 e1 k0 k1
  have hg : w.heap.size + 1 < w2.heap.size := by omega
  have Hwd : Hid (∀ k, k < n → ∃ b o, a = some ⟨b, o, none⟩ ∧ b < w.heap.size ∧ w.cell? ⟨b, o + k, none⟩ = some (.int .i64 (nth ds k))) := Hcw
  clear ew2 c0 c1 f0 f1 hb1 hb2 hs1 hs2
  generalize eg : w.heap.size = g at *
  have Heg := Lib.hid eg
  clear eg
  go_loopw [] (fun wr => ∃ m : Nat, m ≤ n ∧ wr.cell? ⟨g, 0, none⟩ = some (.slice a m c) ∧ wr.cell? ⟨g, 1, none⟩ = some (.bool neg) ∧ wr.frozen? ⟨g, 0, none⟩ = false ∧ wr.frozen? ⟨g, 1, none⟩ = false ∧
      wr.cell? ⟨g + 1, 0, none⟩ = some (.slice none 0 0) ∧ wr.cell? ⟨g + 1, 1, none⟩ = some (.bool false) ∧ wr.frozen? ⟨g + 1, 0, none⟩ = false ∧ wr.frozen? ⟨g + 1, 1, none⟩ = false ∧
      dval (ds.take m) = dval ds ∧ Below g w wr) (fun wr => lenAt (wr.cell? ⟨g, 0, none⟩))
  case atStart => exact ⟨n, Nat.le_refl _, d0, d1, r0, r1, e0, e1, k0, k1, by rw [List.take_of_length_le (by rw [Hn.out]; omega)], hbw2⟩
  case round =>
    clear d0 d1 r0 r1 e0 e1 k0 k1 hbw2
    obtain ⟨m, hm, d0, d1, r0, r1, e0, e1, k0, k1, hv, hb⟩ := hrel
    have Hv := Lib.hid hv
    have hsz := World.block_lt_of_cell? wr _ e0
    clear hv
    by_cases h0 : m = 0
    · subst h0
      have hz : dval ds = 0 := by have := Hv.out; simp [dval] at this; omega
      have Hz := Lib.hid hz
      clear hz
      have hb' := ((hb.setCell (p := ⟨g, 1, none⟩) (Nat.le_refl _) (.bool false)).setCell (p := ⟨g + 1, 0, none⟩) (Nat.le_succ _) (.slice a 0 c)).setCell (p := ⟨g + 1, 1, none⟩) (Nat.le_succ _) (.bool false)
      obtain ⟨q0, q1⟩ := two_set (wr.setCell ⟨g, 1, none⟩ (.bool false)) (g + 1) (.slice a 0 c) (.bool false) _ _ (by rw [World.cell?_setCell_other _ _ _ _ (by simp)]; exact e0) (by rw [World.cell?_setCell_other _ _ _ _ (by simp)]; exact e1)
      go_wp2_with fail
      exact bodyPost_ret (v := .agg #[.slice a 0 c, .bool false]) (by simp [results, Tryz.results125, go_sem, q0, q1]) rfl ⟨_, _, rfl, hm, IsBig.zero ⟨a, c, rfl, Nat.zero_le _, Hcap.out, fun i hi => absurd hi (by simp)⟩ Hz.out, by rw [Heg.out]; exact hb'⟩
    · obtain ⟨i, rfl⟩ : ∃ i, m = i + 1 := ⟨m - 1, by omega⟩
      obtain ⟨b, o, rfl, hbg, hc0⟩ := Hwd.out i (by omega)
      have hc := cell_lt hb hbg hc0
      clear hc0 h0
      by_cases h1 : nth ds i = 0
      · have h1' : (nth ds i == 0) = true := by simpa using h1
        have H1 := Lib.hid h1
        have hic : (i : Int) ≤ (c : Int) := by omega
        clear h1
        go_wp2_with fail
        go_roundw
        case rel =>
          refine ⟨i, by omega, by simp [go_sem, d0], ?_, ?_, ?_, ?_, ?_, ?_, ?_, by rw [← Hv.out, trim_zero H1.out], hb.setCell (Nat.le_refl _) _⟩ <;> first | (rw [World.frozen?_setCell]; assumption) | (rw [World.cell?_setCell_other _ _ _ _ (by simp)]; assumption)
        case measure => simp [lenAt, d0, go_sem]
      · have h1' : (nth ds i == 0) = false := by simpa using h1
        have H1 := Lib.hid h1
        have hb' := (hb.setCell (p := ⟨g + 1, 0, none⟩) (Nat.le_succ _) (.slice (some ⟨b, o, none⟩) (i + 1) c)).setCell (p := ⟨g + 1, 1, none⟩) (Nat.le_succ _) (.bool neg)
        have hl : Hid ((ds.take (i + 1)).length = i + 1) := Lib.hid (by rw [List.length_take, Hn.out]; omega)
        have hI : Hid (Ints w (.slice (some ⟨b, o, none⟩) (i + 1) c) (ds.take (i + 1))) := Lib.hid (Hd.out.take hm)
        clear h1
        obtain ⟨q0, q1⟩ := two_set wr (g + 1) (.slice (some ⟨b, o, none⟩) (i + 1) c) (.bool neg) _ _ e0 e1
        go_wp2_with fail
        exact bodyPost_ret (v := .agg #[.slice (some ⟨b, o, none⟩) (i + 1) c, .bool neg]) (by simp [results, Tryz.results125, go_sem, q0, q1]) rfl ⟨_, _, rfl, hm, by rw [← Hv.out]; exact IsBig.of_sg hI.out (Hdg.out.take _) (nm_take (by rw [Hn.out]; omega) H1.out) (by rw [hl.out]; omega) (by rw [hl.out, Hn.out]; omega), by rw [Heg.out]; exact hb'⟩
end

section
open Go.RowKit
set_option linter.unusedVariables false
set_option maxRecDepth 100000

theorem drew_below (w : World) : Below w.heap.size w w.drew := below_drewN (Below.refl _ w) 1
theorem IsBig.move {w w2 : World} {a : Option Addr} {m n c : Nat} {neg : Bool} {x : Int} {L : Nat} {cs : List Int} (h : IsBig w (.agg #[.slice a m c, .bool neg]) x L) (hm : m ≤ n) (h1 : Ints w (.slice a n c) cs) (h2 : Ints w2 (.slice a n c) cs) :
    IsBig w2 (.agg #[.slice a m c, .bool neg]) x L := by
  obtain ⟨dv, ds, hv, hd, hr⟩ := h
  simp only [Value.agg.injEq, Array.mk.injEq, List.cons.injEq, Value.bool.injEq, and_true] at hv
  obtain ⟨rfl, rfl⟩ := hv
  refine ⟨_, ds, rfl, ?_, hr⟩
  obtain ⟨a', c', he, h3, h4, h5⟩ := hd
  simp only [Value.slice.injEq] at he
  obtain ⟨rfl, rfl, rfl⟩ := he
  obtain ⟨a', c', he, k3, k4, k5⟩ := h1
  simp only [Value.slice.injEq] at he
  obtain ⟨rfl, rfl, rfl⟩ := he
  obtain ⟨a', c', he, l3, l4, l5⟩ := h2
  simp only [Value.slice.injEq] at he
  obtain ⟨rfl, _, rfl⟩ := he
  refine ⟨_, _, rfl, h3, h4, fun i hi => ?_⟩
  obtain ⟨b, o, ha, hc⟩ := h5 i hi
  obtain ⟨b2, o2, ha2, hc2⟩ := k5 i (by omega)
  obtain ⟨b3, o3, ha3, hc3⟩ := l5 i (by omega)
  rw [ha] at ha2 ha3
  simp only [Option.some.injEq, Addr.mk.injEq, and_true] at ha2 ha3
  obtain ⟨rfl, rfl⟩ := ha2
  obtain ⟨rfl, rfl⟩ := ha3
  rw [hc] at hc2
  simp only [Option.some.injEq, Value.int.injEq, true_and] at hc2
  exact ⟨b, o, ha, by rw [hc3, hc2]⟩
theorem sg_not (x : Int) : sg (!decide (x < 0)) (x.natAbs : Int) = -x := by
  by_cases h : x < 0
  · rw [decide_eq_true h]; simp [sg]; omega
  · rw [decide_eq_false h]; simp [sg]; omega
theorem sg_same (x : Int) : sg (decide (x < 0)) (x.natAbs : Int) = x := by
  by_cases h : x < 0
  · rw [decide_eq_true h]; simp [sg]; omega
  · rw [decide_eq_false h]; simp [sg]; omega
end

section
open Go.RowKit
set_option linter.unusedVariables false
set_option maxRecDepth 100000

theorem sg_add {x y : Int} (h : decide (x < 0) = decide (y < 0)) : sg (decide (x < 0)) ((x.natAbs : Int) + y.natAbs) = x + y := by
  by_cases h1 : x < 0
  · rw [decide_eq_true h1] at h ⊢
    have h2 : y < 0 := by simpa using h.symm
    simp [sg]; omega
  · rw [decide_eq_false h1] at h ⊢
    have h2 : ¬ y < 0 := by simpa using h.symm
    simp [sg]; omega
theorem sg_sub {x y : Int} (h : decide (x < 0) ≠ decide (y < 0)) : sg (decide (x < 0)) ((x.natAbs : Int) - y.natAbs) = x + y := by
  by_cases h1 : x < 0
  · rw [decide_eq_true h1] at h ⊢
    have h2 : ¬ y < 0 := by simpa using h
    simp [sg]; omega
  · rw [decide_eq_false h1] at h ⊢
    have h2 : y < 0 := by simpa using h
    simp [sg]; omega

theorem add_keep {w0 w w' : World} {g : Nat} {v0 v1 v2 v3 : Value}
    (h : w.cell? ⟨g, 0, none⟩ = some v0 ∧ w.cell? ⟨g, 1, none⟩ = some v1 ∧ w.cell? ⟨g + 1, 0, none⟩ = some v2 ∧ w.cell? ⟨g + 1, 1, none⟩ = some v3 ∧ g + 1 + 1 ≤ w.heap.size ∧ Below (g + 1 + 1) w0 w) (hb : Below w.heap.size w w') :
    w'.cell? ⟨g, 0, none⟩ = some v0 ∧ w'.cell? ⟨g, 1, none⟩ = some v1 ∧ w'.cell? ⟨g + 1, 0, none⟩ = some v2 ∧ w'.cell? ⟨g + 1, 1, none⟩ = some v3 ∧ g + 1 + 1 ≤ w'.heap.size ∧ Below (g + 1 + 1) w0 w' := by
  obtain ⟨h0, h1, h2, h3, h4, h5⟩ := h
  exact ⟨cell_below hb h0, cell_below hb h1, cell_below hb h2, cell_below hb h3, Nat.le_trans h4 hb.size, h5.trans (hb.mono h4)⟩
theorem add_store {w0 w : World} {g : Nat} {v0 v1 v2 v3 u v : Value}
    (h : w.cell? ⟨g, 0, none⟩ = some v0 ∧ w.cell? ⟨g, 1, none⟩ = some v1 ∧ w.cell? ⟨g + 1, 0, none⟩ = some v2 ∧ w.cell? ⟨g + 1, 1, none⟩ = some v3 ∧ g + 1 + 1 ≤ w.heap.size ∧ Below (g + 1 + 1) w0 w) :
    ((w.setCell ⟨g + 1 + 1, 0, none⟩ u).setCell ⟨g + 1 + 1, 1, none⟩ v).cell? ⟨g, 0, none⟩ = some v0 ∧ ((w.setCell ⟨g + 1 + 1, 0, none⟩ u).setCell ⟨g + 1 + 1, 1, none⟩ v).cell? ⟨g, 1, none⟩ = some v1 ∧
      ((w.setCell ⟨g + 1 + 1, 0, none⟩ u).setCell ⟨g + 1 + 1, 1, none⟩ v).cell? ⟨g + 1, 0, none⟩ = some v2 ∧ ((w.setCell ⟨g + 1 + 1, 0, none⟩ u).setCell ⟨g + 1 + 1, 1, none⟩ v).cell? ⟨g + 1, 1, none⟩ = some v3 ∧
      g + 1 + 1 ≤ ((w.setCell ⟨g + 1 + 1, 0, none⟩ u).setCell ⟨g + 1 + 1, 1, none⟩ v).heap.size ∧ Below (g + 1 + 1) w0 ((w.setCell ⟨g + 1 + 1, 0, none⟩ u).setCell ⟨g + 1 + 1, 1, none⟩ v) := by
  obtain ⟨h0, h1, h2, h3, h4, h5⟩ := h
  refine ⟨?_, ?_, ?_, ?_, by simp [World.setCell]; exact h4, (h5.setCell (p := ⟨g + 1 + 1, 0, none⟩) (Nat.le_refl _) u).setCell (p := ⟨g + 1 + 1, 1, none⟩) (Nat.le_refl _) v⟩ <;>
    (rw [World.cell?_setCell_other _ _ _ _ (by simp <;> omega), World.cell?_setCell_other _ _ _ _ (by simp <;> omega)]; assumption)

theorem res_keep {w w' : World} {B : Nat} {u v : Value} (h : w.cell? ⟨B, 0, none⟩ = some u ∧ w.cell? ⟨B, 1, none⟩ = some v ∧ w.frozen? ⟨B, 0, none⟩ = false ∧ w.frozen? ⟨B, 1, none⟩ = false) (hb : Below w.heap.size w w') :
    w'.cell? ⟨B, 0, none⟩ = some u ∧ w'.cell? ⟨B, 1, none⟩ = some v ∧ w'.frozen? ⟨B, 0, none⟩ = false ∧ w'.frozen? ⟨B, 1, none⟩ = false := by
  obtain ⟨h4, h5, h6, h7⟩ := h
  exact ⟨cell_below hb h4, cell_below hb h5, (hb.frozen (p := ⟨B, 0, none⟩) (World.block_lt_of_cell? w _ h4)).trans h6, (hb.frozen (p := ⟨B, 1, none⟩) (World.block_lt_of_cell? w _ h5)).trans h7⟩

/-- What Add answers. -/
def AddOut (w : World) (x : Int) (L : Nat) (e : Ending) (w' : World) : Prop := ∃ v, e = .returned v ∧ IsBig w' v x L ∧ Below w.heap.size w w'

theorem add_fin {w w3 w6 w7 : World} {B g : Nat} {a6 : Option Addr} {n6 c6 m : Nat} {neg' : Bool} {cs : List Int} {z X : Int} {K LL : Nat} (hg : w.heap.size = g) (hs : g + 1 + 1 < w3.heap.size) (hbw3 : Below g w w3)
    (hown : Own w6 B (.slice a6 n6 c6) cs) (hB0 : g + 1 + 1 < B) (hb6 : Below w3.heap.size w3 w6) (hb7 : Below w6.heap.size w6 w7) (hm : m ≤ n6) (hB : IsBig w6 (.agg #[.slice a6 m c6, .bool neg']) z K) (hz : z = X) (hK : K ≤ LL) :
    AddOut w X LL (.returned (.agg #[.slice a6 m c6, .bool neg'])) ((w7.setCell ⟨g + 1 + 1, 0, none⟩ (.slice a6 m c6)).setCell ⟨g + 1 + 1, 1, none⟩ (.bool neg')) := by
  subst hz
  have h7 := hown.below hb7
  have h8 := h7.kept (grownBy_setCell w7 ⟨g + 1 + 1, 0, none⟩ (.slice a6 m c6)) (h7.not hB0)
  have h9 := h8.kept (grownBy_setCell _ ⟨g + 1 + 1, 1, none⟩ (.bool neg')) (h8.not hB0)
  have b6 := hbw3.trans (hb6.mono (by omega))
  have b7 := b6.trans (hb7.mono (by have := hb6.size; omega))
  exact ⟨_, rfl, (hB.mono hK).move hm hown.ints h9.ints, by rw [hg]; exact (b7.setCell (p := ⟨g + 1 + 1, 0, none⟩) (by simp; omega) _).setCell (p := ⟨g + 1 + 1, 1, none⟩) (by simp; omega) _⟩

set_option maxHeartbeats 3200000 in
theorem bigAdd_is (va vb : Value) (x y : Int) (L M : Nat) (w : World) (ha : IsBig w va x L) (hb : IsBig w vb y M) (hL : L ≤ 1000) (hM : M ≤ 1000) :
    Calls Tryz.prog 110 #[va, vb] w (AddOut w (x + y) (max L M + 1)) := by
  obtain ⟨dv, ds, rfl, hd, hdg, hnm, hv, hl⟩ := ha
  obtain ⟨dv', ds', rfl, hd', hdg', hnm', hv', hl'⟩ := hb
  obtain ⟨a, n, c, rfl, _, _, _⟩ := hd.open
  obtain ⟨a', n', c', rfl, _, _, _⟩ := hd'.open
  have Hxy : Hid (decide (x < 0) = decide (y < 0) → sg (decide (x < 0)) ((x.natAbs : Int) + y.natAbs) = x + y) := Lib.hid sg_add
  have Hxs : Hid (decide (x < 0) ≠ decide (y < 0) → sg (decide (x < 0)) ((x.natAbs : Int) - y.natAbs) = x + y) := Lib.hid sg_sub
  have Hys : Hid (decide (y < 0) ≠ decide (x < 0) → sg (decide (y < 0)) ((y.natAbs : Int) - x.natAbs) = x + y) := Lib.hid (fun h => by rw [sg_sub h, Int.add_comm])
  obtain ⟨w1, ew, hb1, hs1, c0, c1, f0, f1⟩ := box_two w (.slice a n c) (.bool (decide (x < 0))) 144
  obtain ⟨w2, ew2, hb2, hs2, d0, d1, _, _⟩ := box_two w1 (.slice a' n' c') (.bool (decide (y < 0))) 144
  obtain ⟨w3, ew3, hb3, hs3, e0, e1, k0, k1⟩ := box_two w2 (.slice none 0 0) (.bool false) 144
  have hbw2 := hb1.trans (hb2.mono hb1.size)
  have hbw3 := hbw2.trans (hb3.mono hbw2.size)
  have c0' := cell_below hb3 (cell_below hb2 c0)
  have c1' := cell_below hb3 (cell_below hb2 c1)
  have d0' := cell_below hb3 d0
  have d1' := cell_below hb3 d1
  have hs : w3.heap.size = w.heap.size + 3 := by omega
  rw [hs2, hs1] at e0 e1 k0 k1
  rw [hs1] at d0' d1'
  have Hd := Lib.hid (hd.below hbw3)
  have Hd' := Lib.hid (hd'.below hbw3)
  have Hew := Lib.hid ew
  have Hew2 := Lib.hid ew2
  have Hew3 := Lib.hid ew3
  have H := Lib.hid (And.intro hdg (And.intro hnm (And.intro hv (And.intro hl (And.intro hdg' (And.intro hnm' (And.intro hv' hl')))))))
  generalize hsx : decide (x < 0) = sx at *
  generalize hsy : decide (y < 0) = sy at *
  clear ew ew2 ew3 hd hd' hdg hnm hv hl hdg' hnm' hv' hl' hb1 hb2 hb3 hbw2 c0 c1 d0 d1 f0 f1 hs2 hs1 hs3 hsx hsy
  have Hb := Lib.hid hbw3
  clear hbw3
  by_cases hsame : sx = sy
  · have hsame' : (sx == sy) = true := by rw [hsame]; simp
    have Hsame := Lib.hid hsame
    clear hsame
    go_enter Tryz.func110, Tryz.ntmps110
    go_wp2_with fail
    rw [Hew.out, Hew2.out, Hew3.out]
    go_wp2_with fail
    generalize eg : w.heap.size = g at *
    have Heg := Lib.hid eg
    clear eg
    have hd9 := And.intro c0' (And.intro c1' (And.intro d0' (And.intro d1' (And.intro (show g + 1 + 1 ≤ w3.heap.size by omega) (Below.refl (g + 1 + 1) w3)))))
    have He := Lib.hid (And.intro e0 (And.intro e1 (And.intro k0 k1)))
    clear c0' c1' d0' d1' e0 e1 k0 k1
    go_region_held3 (fun w' => w'.cell? ⟨g, 0, none⟩ = some (.slice a n c) ∧ w'.cell? ⟨g, 1, none⟩ = some (.bool sx) ∧ w'.cell? ⟨g + 1, 0, none⟩ = some (.slice a' n' c') ∧ w'.cell? ⟨g + 1, 1, none⟩ = some (.bool sy) ∧ g + 1 + 1 ≤ w'.heap.size ∧ Below (g + 1 + 1) w3 w')
      (first | exact add_keep (by assumption) (by assumption) | exact add_keep (by assumption) (drew_below _) | exact add_store (by assumption))
      (first
        | (go_at_call 126; refine (plus_is (.slice a n c) (.slice a' n' c') ds ds' _ ?_ ?_ ?_ ?_ ?_ ?_).mono ?_; exact Hd.out.below (drew_below _); exact Hd'.out.below (drew_below _); exact H.out.1; exact H.out.2.2.2.2.1; exact Nat.le_trans H.out.2.2.2.1 hL; exact Nat.le_trans H.out.2.2.2.2.2.2.2 hM; rintro e w6 ⟨v, cs, rfl, hown, hdg, hdv, hlen, hb6⟩; obtain ⟨a6, n6, c6, rfl, _, _, _⟩ := hown.ints.open)
        | (go_at_call 125; refine (trim_is a6 n6 c6 cs sx _ ?_ ?_).mono ?_; exact hown.ints; exact hdg; rintro e w7 ⟨m, neg', rfl, hm, hB, hb7⟩; obtain ⟨e0', e1', k0', k1'⟩ := res_keep (res_keep He.out ((drew_below w3).trans hb6)) hb7))
    obtain ⟨q0, q1⟩ := two_set w7 (g + 1 + 1) (.slice a6 m c6) (.bool neg') _ _ e0' e1'
    have Hfin := Lib.hid (add_fin (X := x + y) (LL := max L M + 1) Heg.out (by omega) Hb.out hown (show g + 1 + 1 < w3.drew.heap.size by rw [show w3.drew.heap.size = w3.heap.size from rfl]; omega) ((drew_below w3).trans hb6) hb7 hm hB (by rw [hdv, H.out.2.2.1, H.out.2.2.2.2.2.2.1, Hxy.out Hsame.out]) (by have h1 := H.out.2.2.2.1; have h2 := H.out.2.2.2.2.2.2.2; omega))
    clear hown hdg hdv hlen hb6 hb7 hB e0' e1' k0' k1' hd9 hm
    go_wp2_with fail
    exact bodyPost_ret (v := .agg #[.slice a6 m c6, .bool neg']) (by simp [results, Tryz.results110, go_sem, q0, q1]) rfl Hfin.out
  · have hsame' : (sx == sy) = false := by simpa using hsame
    have Hsame := Lib.hid hsame
    clear hsame
    go_enter Tryz.func110, Tryz.ntmps110
    go_wp2_with fail
    rw [Hew.out, Hew2.out, Hew3.out]
    go_wp2_with fail
    refine (size_is (.slice a n c) (.slice a' n' c') ds ds' w3 Hd.out Hd'.out H.out.1 H.out.2.2.2.2.1 H.out.2.1 H.out.2.2.2.2.2.1).mono ?_
    rintro e w4 ⟨rfl, hb4⟩
    generalize eg : w.heap.size = g at *
    have Heg := Lib.hid eg
    clear eg
    have Hd4 := Lib.hid (Hd.out.below hb4)
    have Hd4' := Lib.hid (Hd'.out.below hb4)
    have c0'' := cell_below hb4 c0'
    have c1'' := cell_below hb4 c1'
    have d0'' := cell_below hb4 d0'
    have d1'' := cell_below hb4 d1'
    obtain ⟨e0'', e1'', k0'', k1''⟩ := res_keep ⟨e0, e1, k0, k1⟩ hb4
    have hs4 : g + 3 ≤ w4.heap.size := by have := hb4.size; omega
    have Hbw4 := Lib.hid (Hb.out.trans (hb4.mono (by omega)))
    clear c0' c1' d0' d1' e0 e1 k0 k1 hb4
    by_cases hle : dval ds' ≤ dval ds
    · have hge : decide (0 ≤ cmpI (dval ds) (dval ds')) = true := by
        by_cases h : dval ds = dval ds'
        · rw [cmpI_eq h]; rfl
        · rw [cmpI_gt (by omega)]; rfl
      have hll : ds'.length ≤ ds.length := by
        by_cases h : ds'.length ≤ ds.length
        · exact h
        · have := shorter_lt H.out.1 H.out.2.2.2.2.1 H.out.2.2.2.2.2.1 (by omega); omega
      have Hll := Lib.hid hll
      have Hle := Lib.hid hle
      clear hle hll
      generalize cmpI (dval ds) (dval ds') = cm at *
      go_wp2_with fail
      have hd9 := And.intro c0'' (And.intro c1'' (And.intro d0'' (And.intro d1'' (And.intro (show g + 1 + 1 ≤ w4.heap.size by omega) (Below.refl (g + 1 + 1) w4)))))
      have He := Lib.hid (And.intro e0'' (And.intro e1'' (And.intro k0'' k1'')))
      clear c0'' c1'' d0'' d1'' e0'' e1'' k0'' k1''
      go_region_held3 (fun w' => w'.cell? ⟨g, 0, none⟩ = some (.slice a n c) ∧ w'.cell? ⟨g, 1, none⟩ = some (.bool sx) ∧ w'.cell? ⟨g + 1, 0, none⟩ = some (.slice a' n' c') ∧ w'.cell? ⟨g + 1, 1, none⟩ = some (.bool sy) ∧ g + 1 + 1 ≤ w'.heap.size ∧ Below (g + 1 + 1) w4 w')
        (first | exact add_keep (by assumption) (by assumption) | exact add_keep (by assumption) (drew_below _) | exact add_store (by assumption))
        (first
          | (go_at_call 127; refine (minus_is (.slice a n c) (.slice a' n' c') ds ds' _ ?_ ?_ ?_ ?_ ?_ ?_ ?_).mono ?_; exact Hd4.out.below (drew_below _); exact Hd4'.out.below (drew_below _); exact H.out.1; exact H.out.2.2.2.2.1; exact Nat.le_trans H.out.2.2.2.1 hL; exact Hll.out; exact Hle.out; rintro e w6 ⟨v, cs, rfl, hown, hdg, hdv, hlen, hb6⟩; obtain ⟨a6, n6, c6, rfl, _, _, _⟩ := hown.ints.open)
          | (go_at_call 125; refine (trim_is a6 n6 c6 cs sx _ ?_ ?_).mono ?_; exact hown.ints; exact hdg; rintro e w7 ⟨m, neg', rfl, hm, hB, hb7⟩; obtain ⟨e0', e1', k0', k1'⟩ := res_keep (res_keep He.out ((drew_below w4).trans hb6)) hb7))
      obtain ⟨q0, q1⟩ := two_set w7 (g + 1 + 1) (.slice a6 m c6) (.bool neg') _ _ e0' e1'
      have Hfin := Lib.hid (add_fin (X := x + y) (LL := max L M + 1) Heg.out (by omega) Hbw4.out hown (show g + 1 + 1 < w4.drew.heap.size by rw [show w4.drew.heap.size = w4.heap.size from rfl]; omega) ((drew_below w4).trans hb6) hb7 hm hB (by rw [hdv, H.out.2.2.1, H.out.2.2.2.2.2.2.1, Hxs.out Hsame.out]) (by have h1 := H.out.2.2.2.1; have h2 := H.out.2.2.2.2.2.2.2; omega))
      clear hown hdg hdv hlen hb6 hb7 hB e0' e1' k0' k1' hd9 hm
      go_wp2_with fail
      exact bodyPost_ret (v := .agg #[.slice a6 m c6, .bool neg']) (by simp [results, Tryz.results110, go_sem, q0, q1]) rfl Hfin.out
    · have hge : decide (0 ≤ cmpI (dval ds) (dval ds')) = false := by rw [cmpI_lt (by omega)]; rfl
      have hle' : dval ds ≤ dval ds' := by omega
      have hll : ds.length ≤ ds'.length := by
        by_cases h : ds.length ≤ ds'.length
        · exact h
        · have := shorter_lt H.out.2.2.2.2.1 H.out.1 H.out.2.1 (by omega); omega
      have Hll := Lib.hid hll
      have Hle := Lib.hid hle'
      clear hle hll hle'
      generalize cmpI (dval ds) (dval ds') = cm at *
      go_wp2_with fail
      have hd9 := And.intro c0'' (And.intro c1'' (And.intro d0'' (And.intro d1'' (And.intro (show g + 1 + 1 ≤ w4.heap.size by omega) (Below.refl (g + 1 + 1) w4)))))
      have He := Lib.hid (And.intro e0'' (And.intro e1'' (And.intro k0'' k1'')))
      clear c0'' c1'' d0'' d1'' e0'' e1'' k0'' k1''
      go_region_held3 (fun w' => w'.cell? ⟨g, 0, none⟩ = some (.slice a n c) ∧ w'.cell? ⟨g, 1, none⟩ = some (.bool sx) ∧ w'.cell? ⟨g + 1, 0, none⟩ = some (.slice a' n' c') ∧ w'.cell? ⟨g + 1, 1, none⟩ = some (.bool sy) ∧ g + 1 + 1 ≤ w'.heap.size ∧ Below (g + 1 + 1) w4 w')
        (first | exact add_keep (by assumption) (by assumption) | exact add_keep (by assumption) (drew_below _) | exact add_store (by assumption))
        (first
          | (go_at_call 127; refine (minus_is (.slice a' n' c') (.slice a n c) ds' ds _ ?_ ?_ ?_ ?_ ?_ ?_ ?_).mono ?_; exact Hd4'.out.below (drew_below _); exact Hd4.out.below (drew_below _); exact H.out.2.2.2.2.1; exact H.out.1; exact Nat.le_trans H.out.2.2.2.2.2.2.2 hM; exact Hll.out; exact Hle.out; rintro e w6 ⟨v, cs, rfl, hown, hdg, hdv, hlen, hb6⟩; obtain ⟨a6, n6, c6, rfl, _, _, _⟩ := hown.ints.open)
          | (go_at_call 125; refine (trim_is a6 n6 c6 cs sy _ ?_ ?_).mono ?_; exact hown.ints; exact hdg; rintro e w7 ⟨m, neg', rfl, hm, hB, hb7⟩; obtain ⟨e0', e1', k0', k1'⟩ := res_keep (res_keep He.out ((drew_below w4).trans hb6)) hb7))
      obtain ⟨q0, q1⟩ := two_set w7 (g + 1 + 1) (.slice a6 m c6) (.bool neg') _ _ e0' e1'
      have Hfin := Lib.hid (add_fin (X := x + y) (LL := max L M + 1) Heg.out (by omega) Hbw4.out hown (show g + 1 + 1 < w4.drew.heap.size by rw [show w4.drew.heap.size = w4.heap.size from rfl]; omega) ((drew_below w4).trans hb6) hb7 hm hB (by rw [hdv, H.out.2.2.1, H.out.2.2.2.2.2.2.1, Hys.out (fun h => Hsame.out h.symm)]) (by have h1 := H.out.2.2.2.1; have h2 := H.out.2.2.2.2.2.2.2; omega))
      clear hown hdg hdv hlen hb6 hb7 hB e0' e1' k0' k1' hd9 hm
      go_wp2_with fail
      exact bodyPost_ret (v := .agg #[.slice a6 m c6, .bool neg']) (by simp [results, Tryz.results110, go_sem, q0, q1]) rfl Hfin.out
end

section
open Go.RowKit
set_option linter.unusedVariables false
set_option maxRecDepth 100000

theorem of_step {n m : Int} {ds : List Int} (hd : Dg ds) (hm : m ≠ 0) (h : dval ds + pw ds.length * (m.natAbs : Int) = (n.natAbs : Int)) (hf : fitsI n = true) :
    ds.length ≤ 3 ∧ ((m.tmod 65536).natAbs : Int) < 65536 ∧ Dg (ds ++ [((m.tmod 65536).natAbs : Int)]) ∧ dval (ds ++ [((m.tmod 65536).natAbs : Int)]) + pw (ds ++ [((m.tmod 65536).natAbs : Int)]).length * ((m.tdiv 65536).natAbs : Int) = (n.natAbs : Int) ∧
      (m.tdiv 65536 = 0 → Nm (ds ++ [((m.tmod 65536).natAbs : Int)])) := by
  have e1 : ((m.tmod 65536).natAbs : Int) = (m.natAbs : Int) % 65536 := by rw [Int.natAbs_tmod]; rfl
  have e2 : ((m.tdiv 65536).natAbs : Int) = (m.natAbs : Int) / 65536 := by rw [Int.natAbs_tdiv]; rfl
  rw [e1, e2]
  have hp := dval_bd hd
  have hpw := pw_pos ds.length
  have hl : ds.length ≤ 3 := by
    by_cases hl : ds.length ≤ 3
    · exact hl
    · have h4 := pw_le (show 4 ≤ ds.length by omega)
      have e4 : pw 4 = 18446744073709551616 := by decide
      rw [fitsI_iff] at hf
      have : pw ds.length * 1 ≤ pw ds.length * (m.natAbs : Int) := Int.mul_le_mul_of_nonneg_left (by omega) (by omega)
      omega
  refine ⟨hl, by omega, hd.snoc (by omega) (by omega), ?_, ?_⟩
  · rw [dval_snoc, List.length_append, List.length_singleton, pw_add, show pw 1 = 65536 by decide, ← h, Int.mul_assoc]
    have := Int.emod_add_mul_ediv (m.natAbs : Int) 65536
    rw [Int.add_assoc, ← Int.mul_add]
    rw [this]
  · intro h0 _
    rw [List.length_append, List.length_singleton, Nat.add_sub_cancel, nth_append_here]
    have : ((m.tdiv 65536).natAbs : Int) = 0 := by rw [h0]; rfl
    rw [e2] at this
    omega

theorem of_div {m : Int} (hf : fitsI m = true) : wrap64 (m.tdiv 65536) = m.tdiv 65536 ∧ fitsI (m.tdiv 65536) = true ∧ (m ≠ 0 → (m.tdiv 65536).natAbs < m.natAbs) := by
  have e2 : ((m.tdiv 65536).natAbs : Int) = (m.natAbs : Int) / 65536 := by rw [Int.natAbs_tdiv]; rfl
  rw [fitsI_iff] at hf
  have h : -9223372036854775808 ≤ m.tdiv 65536 ∧ m.tdiv 65536 ≤ 9223372036854775807 := by omega
  exact ⟨wrap_id h.1 h.2, fitsI_iff.2 h, fun h0 => by omega⟩
theorem res_grown {w w' : World} {B : Nat} {r : Option Nat} {u v : Value} (h : w.cell? ⟨B, 0, none⟩ = some u ∧ w.cell? ⟨B, 1, none⟩ = some v ∧ w.frozen? ⟨B, 0, none⟩ = false ∧ w.frozen? ⟨B, 1, none⟩ = false) (hg : w.grownBy w' r) (hne : some B ≠ r) :
    w'.cell? ⟨B, 0, none⟩ = some u ∧ w'.cell? ⟨B, 1, none⟩ = some v ∧ w'.frozen? ⟨B, 0, none⟩ = false ∧ w'.frozen? ⟨B, 1, none⟩ = false := by
  obtain ⟨h4, h5, h6, h7⟩ := h
  exact ⟨hg.cell h4 hne, hg.cell h5 hne, (hg.frozen_far ⟨B, 0, none⟩ (World.block_lt_of_cell? w _ h4) hne).trans h6, (hg.frozen_far ⟨B, 1, none⟩ (World.block_lt_of_cell? w _ h5) hne).trans h7⟩

set_option maxHeartbeats 3200000 in
theorem of_is (n : Int) (w : World) (hf : fitsI n = true) :
    Calls Tryz.prog 111 #[.int .i64 n] w (AddOut w n 4) := by
  obtain ⟨w1, ew, hb1, hs1, c0, c1, f0, f1⟩ := box_two w (.slice none 0 0) (.bool false) 144
  obtain ⟨neg, hneg⟩ : ∃ neg, decide (n < 0) = neg := ⟨_, rfl⟩
  obtain ⟨w2, ew2, hb2, hs2, d0, d1, k0, k1⟩ := box_two w1 (.slice none 0 0) (.bool neg) 144
  have Hew := Lib.hid ew
  have Hew2 := Lib.hid ew2
  have Hf := Lib.hid hf
  clear ew ew2 hf
  have hb := hb1.trans (hb2.mono hb1.size)
  obtain ⟨c0', c1', f0', f1'⟩ := res_keep ⟨c0, c1, f0, f1⟩ hb2
  rw [hs1] at d0 d1 k0 k1
  have Hneg := Lib.hid hneg
  go_enter Tryz.func111, Tryz.ntmps111
  go_wp2_with fail
  rw [Hew.out, Hew2.out]
  generalize eg : w.heap.size = g at *
  have Heg := Lib.hid eg
  clear eg
  clear hneg
  have hown0 := Own.nil w2 (g + 1 + 1)
  have hgg : g + 1 + 1 ≤ w2.heap.size := by omega
  go_loopw [0, 4] (fun i u wr => ∃ (m : Int) (ds : List Int) (v d : Value), i = .int .i64 m ∧ u = d ∧ wr.cell? ⟨g + 1, 0, none⟩ = some v ∧ wr.cell? ⟨g + 1, 1, none⟩ = some (.bool neg) ∧ wr.frozen? ⟨g + 1, 0, none⟩ = false ∧ wr.frozen? ⟨g + 1, 1, none⟩ = false ∧
      wr.cell? ⟨g, 0, none⟩ = some (.slice none 0 0) ∧ wr.cell? ⟨g, 1, none⟩ = some (.bool false) ∧ wr.frozen? ⟨g, 0, none⟩ = false ∧ wr.frozen? ⟨g, 1, none⟩ = false ∧ Own wr (g + 1 + 1) v ds ∧ Dg ds ∧
      dval ds + pw ds.length * (m.natAbs : Int) = (n.natAbs : Int) ∧ (m = 0 → Nm ds) ∧ fitsI m = true ∧ ds.length ≤ 4 ∧ g + 1 + 1 ≤ wr.heap.size ∧ Below g w wr) (fun i _ _ => (intOf i).natAbs)
  case atStart => exact ⟨n, [], _, _, rfl, rfl, d0, d1, k0, k1, c0', c1', f0', f1', hown0, Dg.nil, by simp [dval, pw], fun _ => nm_nil, Hf.out, by simp, hgg, hb⟩
  case round =>
    clear d0 d1 k0 k1 c0' c1' f0' f1' hown0 hb hgg
    obtain ⟨m, ds, v, d, rfl, rfl, d0, d1, k0, k1, c0, c1, f0, f1, hown, hdg, hv, hnm, hfm, hl, hgg, hb⟩ := hrel
    obtain ⟨a, n1, c, rfl, hn1, _, _⟩ := hown.ints.open
    have Hown := Lib.hid hown
    have Hdg := Lib.hid hdg
    have Hv := Lib.hid hv
    have Hnm := Lib.hid hnm
    have Hfm := Lib.hid hfm
    have Hl := Lib.hid hl
    have Hn1 := Lib.hid hn1
    clear hown hdg hv hnm hfm hl hn1
    by_cases hm0 : m = 0
    · subst hm0
      obtain ⟨q0, q1⟩ := two_set wr g (.slice a n1 c) (.bool neg) _ _ c0 c1
      have H8 := Hown.out.kept (grownBy_setCell wr ⟨g, 0, none⟩ (.slice a n1 c)) (Own.not Hown.out (show g < g + 1 + 1 by omega))
      have H9 := Lib.hid (H8.kept (grownBy_setCell _ ⟨g, 1, none⟩ (.bool neg)) (H8.not (show g < g + 1 + 1 by omega)))
      have Hb := Lib.hid ((hb.setCell (p := ⟨g, 0, none⟩) (Nat.le_refl _) (.slice a n1 c)).setCell (p := ⟨g, 1, none⟩) (Nat.le_refl _) (.bool neg))
      clear H8
      go_wp2_with fail
      exact bodyPost_ret (v := .agg #[.slice a n1 c, .bool neg]) (by simp [results, Tryz.results111, go_sem, q0, q1]) rfl ⟨_, rfl, ⟨_, ds, by rw [Hneg.out], H9.out.ints, Hdg.out, (by first | exact Hnm.out trivial | exact Hnm.out rfl | simpa using Hnm.out), by have := Hv.out; simpa using this, Hl.out⟩, by rw [Heg.out]; exact Hb.out⟩
    · have hm0' : (m != 0) = true := by simpa using hm0
      have Hst := Lib.hid (of_step Hdg.out hm0 Hv.out Hf.out)
      clear hm0
      obtain ⟨D, hD⟩ : ∃ D : Int, D = ((m.tmod 65536).natAbs : Int) := ⟨_, rfl⟩
      rw [← hD] at Hst
      have Hlen : Hid (ds.length + 1 ≤ 17592186044416) := Lib.hid (by have := Hst.out.1; omega)
      by_cases hlt : m.tmod 65536 < 0
      · have hw : wrap64 (-m.tmod 65536) = D := by rw [wrap_id (by omega) (by have := Hst.out.2.1; omega)]; omega
        have hlt' : decide (m.tmod 65536 < 0) = true := by simpa using hlt
        clear hlt hD
        go_wp2_with (at_builtin; refine wpList_push rfl _ _ rfl wr (g + 1 + 1) (.slice a n1 c) ds D rfl rfl Hown.out Hlen.out hgg ?_)
        intro v' w5 hown5 g5 hb5
        obtain ⟨a2, n2, c2, rfl, _, _, _⟩ := hown5.ints.open
        obtain ⟨d0', d1', k0', k1'⟩ := res_grown ⟨d0, d1, k0, k1⟩ g5 (Own.not' Hown.out (Nat.lt_succ_self _))
        obtain ⟨c0', c1', f0', f1'⟩ := res_grown ⟨c0, c1, f0, f1⟩ g5 (Own.not' Hown.out (by omega))
        have hsz5 := World.block_lt_of_cell? w5 _ d0'
        have hbw5 := hb.trans (hb5.mono (by omega))
        clear d0 d1 k0 k1 c0 c1 f0 f1 hb5 g5 hb
        have Hown5 := Lib.hid hown5
        clear hown5
        have Hb := Lib.hid (hbw5.setCell (p := ⟨g + 1, 0, none⟩) (Nat.le_succ _) (.slice a2 n2 c2))
        have Ho := Lib.hid (Hown5.out.kept (grownBy_setCell w5 ⟨g + 1, 0, none⟩ (.slice a2 n2 c2)) (Own.not Hown5.out (show g + 1 < g + 1 + 1 by omega)))
        clear hbw5
        go_wp2_with fail
        go_roundw
        case rel =>
          obtain ⟨t1, t2, t3⟩ := of_div Hfm.out
          refine ⟨m.tdiv 65536, ds ++ [D], .slice a2 n2 c2, .int .i64 D, by rw [t1], rfl, World.cell?_setCell_same _ _ _ d0', ?_, ?_, ?_, ?_, ?_, ?_, ?_, Ho.out, Hst.out.2.2.1, Hst.out.2.2.2.1, Hst.out.2.2.2.2, t2, by rw [List.length_append]; have := Hst.out.1; simp; omega, by simp [World.setCell]; exact hsz5, Hb.out⟩ <;>
            first | (rw [World.frozen?_setCell]; assumption) | (rw [World.cell?_setCell_other _ _ _ _ (by simp)]; assumption)
        case measure =>
          obtain ⟨t1, t2, t3⟩ := of_div Hfm.out
          rw [t1]
          simp only [intOf]
          exact t3 (by simpa using hm0')
      · have hw : m.tmod 65536 = D := by omega
        have hlt' : decide (D < 0) = false := by have : ¬ D < 0 := by omega
                                                 simpa using this
        clear hlt hD
        go_wp2_with (at_builtin; refine wpList_push rfl _ _ rfl wr (g + 1 + 1) (.slice a n1 c) ds D rfl rfl Hown.out Hlen.out hgg ?_)
        intro v' w5 hown5 g5 hb5
        obtain ⟨a2, n2, c2, rfl, _, _, _⟩ := hown5.ints.open
        obtain ⟨d0', d1', k0', k1'⟩ := res_grown ⟨d0, d1, k0, k1⟩ g5 (Own.not' Hown.out (Nat.lt_succ_self _))
        obtain ⟨c0', c1', f0', f1'⟩ := res_grown ⟨c0, c1, f0, f1⟩ g5 (Own.not' Hown.out (by omega))
        have hsz5 := World.block_lt_of_cell? w5 _ d0'
        have hbw5 := hb.trans (hb5.mono (by omega))
        clear d0 d1 k0 k1 c0 c1 f0 f1 hb5 g5 hb
        have Hown5 := Lib.hid hown5
        clear hown5
        have Hb := Lib.hid (hbw5.setCell (p := ⟨g + 1, 0, none⟩) (Nat.le_succ _) (.slice a2 n2 c2))
        have Ho := Lib.hid (Hown5.out.kept (grownBy_setCell w5 ⟨g + 1, 0, none⟩ (.slice a2 n2 c2)) (Own.not Hown5.out (show g + 1 < g + 1 + 1 by omega)))
        clear hbw5
        go_wp2_with fail
        go_roundw
        case rel =>
          obtain ⟨t1, t2, t3⟩ := of_div Hfm.out
          refine ⟨m.tdiv 65536, ds ++ [D], .slice a2 n2 c2, .int .i64 D, by rw [t1], rfl, World.cell?_setCell_same _ _ _ d0', ?_, ?_, ?_, ?_, ?_, ?_, ?_, Ho.out, Hst.out.2.2.1, Hst.out.2.2.2.1, Hst.out.2.2.2.2, t2, by rw [List.length_append]; have := Hst.out.1; simp; omega, by simp [World.setCell]; exact hsz5, Hb.out⟩ <;>
            first | (rw [World.frozen?_setCell]; assumption) | (rw [World.cell?_setCell_other _ _ _ _ (by simp)]; assumption)
        case measure =>
          obtain ⟨t1, t2, t3⟩ := of_div Hfm.out
          rw [t1]
          simp only [intOf]
          exact t3 (by simpa using hm0')
end

section
open Go.RowKit
set_option linter.unusedVariables false
set_option maxRecDepth 100000

theorem dval_drop_bd {ds : List Int} (h : Dg ds) (k : Nat) (hk : k ≤ ds.length) : 0 ≤ dval (ds.drop k) ∧ dval (ds.drop k) ≤ dval ds := by
  have h1 := dval_split ds k hk
  have h2 := (dval_bd (h.take k)).1
  have h3 := (dval_bd (h.drop k)).1
  have h4 := pw_pos k
  have : 1 * dval (ds.drop k) ≤ pw k * dval (ds.drop k) := Int.mul_le_mul_of_nonneg_right (by omega) h3
  exact ⟨h3, by omega⟩
theorem sumE_fit {x : Int} (h : fitsI x = true) : sumE x = (x, true) := by unfold sumE; rw [if_pos h]
theorem sumE_not {x : Int} (h : ¬ fitsI x = true) : sumE x = (0, false) := by unfold sumE; rw [if_neg h]

def IntOut (w : World) (x : Int) (e : Ending) (w' : World) : Prop := e = .returned (.tuple #[.int .i64 (sumE x).1, .bool (sumE x).2]) ∧ Below w.heap.size w w'

set_option maxHeartbeats 3200000 in
theorem int_is (va : Value) (x : Int) (L : Nat) (w : World) (ha : IsBig w va x L) :
    Calls Tryz.prog 109 #[va] w (IntOut w x) := by
  obtain ⟨dv, ds, rfl, hd, hdg, hnm, hv, hl⟩ := ha
  obtain ⟨a, n, c, rfl, hn, hmax, _⟩ := hd.open
  obtain ⟨w1, ew, hb1, hs1, c0, c1, _, _⟩ := box_two w (.slice a n c) (.bool (decide (x < 0))) 144
  have Hew := Lib.hid ew
  have Hd := Lib.hid (hd.below hb1)
  have Hdg := Lib.hid hdg
  have Hnm := Lib.hid hnm
  have Hv := Lib.hid hv
  have Hn := Lib.hid hn
  obtain ⟨neg, hneg⟩ : ∃ neg, decide (x < 0) = neg := ⟨_, rfl⟩
  rw [hneg] at c1 Hew
  have Hneg := Lib.hid hneg
  clear ew hd hdg hnm hv hn
  go_enter Tryz.func109, Tryz.ntmps109
  go_wp2_with fail
  rw [Hew.out]
  refine (of_is 9223372036854775807 w1 (by decide)).mono ?_
  rintro e w3 ⟨v3, rfl, hB3, hb3⟩
  obtain ⟨dv3, ds3, rfl, hd3, hdg3, hnm3, hv3, hl3⟩ := hB3
  obtain ⟨a3, n3, cc3, rfl, _, _, _⟩ := hd3.open
  generalize decide ((9223372036854775807 : Int) < 0) = neg3 at *
  go_wp2_with fail
  obtain ⟨w4, ew4, hb4, hs4, p0, p1, _, _⟩ := box_two w3 (.slice a3 n3 cc3) (.bool neg3) 144
  rw [ew4]
  refine (of_is (-9223372036854775808) w4 (by decide)).mono ?_
  rintro e w5 ⟨v5, rfl, hB5, hb5⟩
  obtain ⟨dv5, ds5, rfl, hd5, hdg5, hnm5, hv5, hl5⟩ := hB5
  obtain ⟨a5, n5, cc5, rfl, _, _, _⟩ := hd5.open
  generalize decide ((-9223372036854775808 : Int) < 0) = neg5 at *
  have b3 := hb1.trans (hb3.mono hb1.size)
  have b4 := b3.trans (hb4.mono b3.size)
  have b5 := b4.trans (hb5.mono b4.size)
  have c0' := cell_below hb5 (cell_below hb4 (cell_below hb3 c0))
  have c1' := cell_below hb5 (cell_below hb4 (cell_below hb3 c1))
  have p0' := cell_below hb5 p0
  have l0 : w.heap.size < w5.heap.size := World.block_lt_of_cell? w5 _ c0'
  have l1 : w3.heap.size < w5.heap.size := World.block_lt_of_cell? w5 _ p0'
  have Hd5 := Lib.hid hd5
  have H5 := Lib.hid (And.intro hdg5 (And.intro hnm5 hv5))
  have Hd3 := Lib.hid (hd3.below (hb4.trans (hb5.mono hb4.size)))
  have H3 := Lib.hid (And.intro hdg3 (And.intro hnm3 hv3))
  have Hdw := Lib.hid (Hd.out.below (hb3.trans ((hb4.mono hb3.size).trans (hb5.mono (Nat.le_trans hb3.size hb4.size)))))
  clear hd3 hd5 hdg3 hnm3 hv3 hl3 hdg5 hnm5 hv5 hl5 hb1 hb3 hb4 hb5 hs1 hs4 b3 b4 c0 c1 p0 p1 ew4 Hd hneg hl
  generalize eg : w.heap.size = g at *
  have Heg := Lib.hid eg
  generalize w3.heap.size = g3 at *
  clear eg
  obtain ⟨w6, ew6, hb6, hs6, r0, r1, _, _⟩ := box_two w5 (.slice a5 n5 cc5) (.bool neg5) 144
  have Hew6 := Lib.hid ew6
  have b6 := b5.trans (hb6.mono (by omega))
  have c0 := cell_below hb6 c0'
  have c1 := cell_below hb6 c1'
  have p0 := cell_below hb6 p0'
  have Hd6 := Lib.hid (Hdw.out.below hb6)
  have Hd36 := Lib.hid (Hd3.out.below hb6)
  have Hd56 := Lib.hid (Hd5.out.below hb6)
  cases neg
  · have hx0 : Hid (0 ≤ x) := Lib.hid (by have := Hneg.out; simp at this; omega)
    go_wp2_with fail
    refine (size_is (.slice a n c) (.slice a3 n3 cc3) ds ds3 w6 Hd6.out Hd36.out Hdg.out H3.out.1 Hnm.out H3.out.2.1).mono ?_
    rintro e w7 ⟨rfl, hb7⟩
    have c0'' := cell_below hb7 c0
    have c1'' := cell_below hb7 c1
    have b7 := b6.trans (hb7.mono (by omega))
    have Hd7 := Lib.hid (Hd6.out.below hb7)
    have Hcm : Hid (cmpI (dval ds) (dval ds3) = cmpI (dval ds) 9223372036854775807) := Lib.hid (by rw [H3.out.2.2]; rfl)
    rw [Hcm.out]
    clear c0 c1 p0 r0 r1 c0' c1' p0' b6 hb7 hb6 ew6 hs6 l0 l1 b5
    by_cases hfit : dval ds ≤ 9223372036854775807
    rotate_left
    · have hgt : decide (0 < cmpI (dval ds) 9223372036854775807) = true := by rw [cmpI_gt (by omega)]; rfl
      have Hno : Hid (sumE x = (0, false)) := Lib.hid (sumE_not (by rw [fitsI_iff]; have := Hv.out; have := hx0.out; omega))
      clear hfit Hcm
      generalize cmpI (dval ds) 9223372036854775807 = cm at *
      go_wp2_with fail
      exact bodyPost_ret (v := .tuple #[.int .i64 0, .bool false]) (by simp [results, Tryz.results109, go_sem]) rfl ⟨by rw [Hno.out], by rw [Heg.out]; exact b7⟩
    · have hgt : decide (0 < cmpI (dval ds) 9223372036854775807) = false := by
        by_cases h : dval ds = 9223372036854775807
        · rw [cmpI_eq h]; rfl
        · rw [cmpI_lt (by omega)]; rfl
      have Hyes : Hid (sumE x = (x, true)) := Lib.hid (sumE_fit (by rw [fitsI_iff]; have := Hv.out; have := hx0.out; omega))
      have Hfit := Lib.hid hfit
      clear hfit Hcm
      generalize cmpI (dval ds) 9223372036854775807 = cm at *
      go_wp2_with fail
      go_loopw [6, 7] (fun s i wr => ∃ (k : Nat) (s0 : Int), k ≤ n ∧ s = .int .i64 s0 ∧ i = .int .i64 ((k : Int) - 1) ∧ s0 = dval (ds.drop k) ∧ wr = w7) (fun _ i _ => (intOf i + 1).toNat)
      case atStart => exact ⟨n, 0, Nat.le_refl _, rfl, rfl, by rw [List.drop_of_length_le (by rw [Hn.out]; omega)]; rfl, rfl⟩
      case round =>
        obtain ⟨k, s0, hk, rfl, rfl, hs0, rfl⟩ := hrel
        have Hs0 := Lib.hid hs0
        clear hs0
        by_cases hk0 : 1 ≤ k
        · obtain ⟨i, rfl⟩ : ∃ i, k = i + 1 := ⟨k - 1, by omega⟩
          rw [show ((i + 1 : Nat) : Int) - 1 = (i : Int) by omega]
          obtain ⟨a', n', c', he, _, _, hcell⟩ := Hd7.out.open
          simp only [Value.slice.injEq] at he
          obtain ⟨rfl, h2, rfl⟩ := he
          rw [← h2] at hcell
          obtain ⟨b, o, rfl, hc⟩ := hcell i (by omega)
          have hi0 : (0 : Int) ≤ (i : Int) := by omega
          have hi1 : (i : Int) < (n : Int) := by omega
          have hdr := dval_drop ds i (by rw [Hn.out]; omega)
          have hbd := dval_drop_bd Hdg.out i (by rw [Hn.out]; omega)
          have hbd1 := dval_drop_bd Hdg.out (i + 1) (by rw [Hn.out]; omega)
          have hdd := nth_dg Hdg.out i
          have hff := Hfit.out
          have hss := Hs0.out
          obtain ⟨M, hM, hM'⟩ : ∃ M, wrap64 (s0 * 65536) = M ∧ M = s0 * 65536 := ⟨_, rfl, wrap_id (by omega) (by omega)⟩
          have hN : wrap64 (M + nth ds i) = dval (ds.drop i) := by rw [wrap_id (by omega) (by omega)]; omega
          obtain ⟨N, hN1⟩ : ∃ N, N = dval (ds.drop i) := ⟨_, rfl⟩
          rw [← hN1] at hN
          have HN1 := Lib.hid hN1
          clear hcell h2 hdr hbd hbd1 hdd hff hss hM' hk0 hN1
          go_wp2_with fail
          go_roundw
          case rel => exact ⟨i, N, by omega, by rw [hN], by go_num, HN1.out, by first | rfl | trivial⟩
          case measure => simp [intOf]
        · have hk' : k = 0 := by omega
          subst hk'
          have hs : s0 = x := by rw [Hs0.out, List.drop_zero, Hv.out]; have := hx0.out; omega
          subst hs
          clear hk0
          go_wp2_with fail
          exact bodyPost_ret (v := .tuple #[.int .i64 s0, .bool true]) (by simp [results, Tryz.results109, go_sem]) rfl ⟨by rw [Hyes.out], by rw [Heg.out]; exact b7⟩
  · have hx0 : Hid (x < 0) := Lib.hid (by have := Hneg.out; simp at this; omega)
    go_wp2_with fail
    refine (size_is (.slice a n c) (.slice a5 n5 cc5) ds ds5 w6 Hd6.out Hd56.out Hdg.out H5.out.1 Hnm.out H5.out.2.1).mono ?_
    rintro e w7 ⟨rfl, hb7⟩
    have c0'' := cell_below hb7 c0
    have c1'' := cell_below hb7 c1
    have b7 := b6.trans (hb7.mono (by omega))
    have Hd7 := Lib.hid (Hd6.out.below hb7)
    have Hcm : Hid (cmpI (dval ds) (dval ds5) = cmpI (dval ds) 9223372036854775808) := Lib.hid (by rw [H5.out.2.2]; rfl)
    rw [Hcm.out]
    clear c0 c1 p0 r0 r1 c0' c1' p0' b6 hb7 hb6 ew6 hs6 l0 l1 b5
    by_cases hfit : dval ds ≤ 9223372036854775808
    rotate_left
    · have hgt : decide (0 < cmpI (dval ds) 9223372036854775808) = true := by rw [cmpI_gt (by omega)]; rfl
      have Hno : Hid (sumE x = (0, false)) := Lib.hid (sumE_not (by rw [fitsI_iff]; have := Hv.out; have := hx0.out; omega))
      clear hfit Hcm
      generalize cmpI (dval ds) 9223372036854775808 = cm at *
      go_wp2_with fail
      exact bodyPost_ret (v := .tuple #[.int .i64 0, .bool false]) (by simp [results, Tryz.results109, go_sem]) rfl ⟨by rw [Hno.out], by rw [Heg.out]; exact b7⟩
    · have hgt : decide (0 < cmpI (dval ds) 9223372036854775808) = false := by
        by_cases h : dval ds = 9223372036854775808
        · rw [cmpI_eq h]; rfl
        · rw [cmpI_lt (by omega)]; rfl
      have Hyes : Hid (sumE x = (x, true)) := Lib.hid (sumE_fit (by rw [fitsI_iff]; have := Hv.out; have := hx0.out; omega))
      have Hfit := Lib.hid hfit
      clear hfit Hcm
      generalize cmpI (dval ds) 9223372036854775808 = cm at *
      go_wp2_with fail
      go_loopw [6, 7] (fun s i wr => ∃ (k : Nat) (s0 : Int), k ≤ n ∧ s = .int .i64 s0 ∧ i = .int .i64 ((k : Int) - 1) ∧ s0 = -dval (ds.drop k) ∧ wr = w7) (fun _ i _ => (intOf i + 1).toNat)
      case atStart => exact ⟨n, 0, Nat.le_refl _, rfl, rfl, by rw [List.drop_of_length_le (by rw [Hn.out]; omega)]; rfl, rfl⟩
      case round =>
        obtain ⟨k, s0, hk, rfl, rfl, hs0, rfl⟩ := hrel
        have Hs0 := Lib.hid hs0
        clear hs0
        by_cases hk0 : 1 ≤ k
        · obtain ⟨i, rfl⟩ : ∃ i, k = i + 1 := ⟨k - 1, by omega⟩
          rw [show ((i + 1 : Nat) : Int) - 1 = (i : Int) by omega]
          obtain ⟨a', n', c', he, _, _, hcell⟩ := Hd7.out.open
          simp only [Value.slice.injEq] at he
          obtain ⟨rfl, h2, rfl⟩ := he
          rw [← h2] at hcell
          obtain ⟨b, o, rfl, hc⟩ := hcell i (by omega)
          have hi0 : (0 : Int) ≤ (i : Int) := by omega
          have hi1 : (i : Int) < (n : Int) := by omega
          have hdr := dval_drop ds i (by rw [Hn.out]; omega)
          have hbd := dval_drop_bd Hdg.out i (by rw [Hn.out]; omega)
          have hbd1 := dval_drop_bd Hdg.out (i + 1) (by rw [Hn.out]; omega)
          have hdd := nth_dg Hdg.out i
          have hff := Hfit.out
          have hss := Hs0.out
          obtain ⟨M, hM, hM'⟩ : ∃ M, wrap64 (s0 * 65536) = M ∧ M = s0 * 65536 := ⟨_, rfl, wrap_id (by omega) (by omega)⟩
          have hN : wrap64 (M - nth ds i) = -dval (ds.drop i) := by rw [wrap_id (by omega) (by omega)]; omega
          obtain ⟨N, hN1⟩ : ∃ N, N = -dval (ds.drop i) := ⟨_, rfl⟩
          rw [← hN1] at hN
          have HN1 := Lib.hid hN1
          clear hcell h2 hdr hbd hbd1 hdd hff hss hM' hk0 hN1
          go_wp2_with fail
          go_roundw
          case rel => exact ⟨i, N, by omega, by rw [hN], by go_num, HN1.out, by first | rfl | trivial⟩
          case measure => simp [intOf]
        · have hk' : k = 0 := by omega
          subst hk'
          have hs : s0 = x := by rw [Hs0.out, List.drop_zero, Hv.out]; have := hx0.out; omega
          subst hs
          clear hk0
          go_wp2_with fail
          exact bodyPost_ret (v := .tuple #[.int .i64 s0, .bool true]) (by simp [results, Tryz.results109, go_sem]) rfl ⟨by rw [Hyes.out], by rw [Heg.out]; exact b7⟩
end

end Go.Proofs.YtnhcgpkcmfelkaaGreat
