/-
  My own work: layer 11, plainly: whether anything suits, the least of all, the bound; with lower prices.
-/
import Derived.Test.YtnhcgpkcmfelkaaGreatAloneZ
namespace Go.Proofs.YtnhcgpkcmfelkaaGreat
open Go.RowKit
set_option linter.unusedVariables false
set_option maxRecDepth 100000

/-! ### Whether a row of fills may be -/
section
variable {st sz rt hd cap : Int} {P : List Int} {n : Nat}
theorem most_nonneg (ru there : Int) : 0 ≤ mostI sz ru there cap := by
  unfold mostI
  split
  · omega
  · split
    · omega
    · split <;> omega
theorem stepPut_some (s c : Option (Int × Int)) : (stepPut s c).isSome = (s.isSome || c.isSome) := by
  unfold stepPut
  cases c with
  | none => simp
  | some x => cases s with
    | none => simp
    | some y => simp only []; split <;> simp
theorem candE_some (S d : Nat) (f : Nat → Option (Int × Int)) (last : Int) (h : 0 ≤ last → S.testBit last.toNat = (f last.toNat).isSome) :
    (candE st sz rt hd cap P n f d last).isSome = (okLast st sz rt S d last && (!decide (d < n) || decide (0 < mostI sz 1 (thereI st sz rt d last) cap))) := by
  have hm := most_nonneg (sz := sz) (cap := cap) 1 (thereI st sz rt d last)
  unfold candE okLast
  by_cases h0 : 0 ≤ last
  · rw [h h0]
    by_cases hf : f last.toNat = none
    · rw [if_pos ⟨h0, hf⟩, hf, decide_eq_false (show ¬ last < 0 by omega)]; simp
    · have hs : (f last.toNat).isSome = true := by rw [Option.isSome_iff_ne_none]; exact hf
      rw [if_neg (fun h => hf h.2), hs]
      by_cases ht : thereI st sz rt d last < 0
      · rw [if_pos (.inl ht), decide_eq_false (show ¬ 0 ≤ thereI st sz rt d last by omega)]; simp
      · rw [decide_eq_true (show 0 ≤ thereI st sz rt d last by omega)]
        by_cases hc : d < n ∧ mostI sz 1 (thereI st sz rt d last) cap = 0
        · rw [if_pos (.inr hc), decide_eq_true hc.1, hc.2]; simp
        · rw [if_neg (by omega)]
          by_cases hd' : d < n
          · rw [decide_eq_true (show 0 < mostI sz 1 (thereI st sz rt d last) cap by omega)]; simp
          · rw [decide_eq_false hd']; simp
  · rw [if_neg (by omega), decide_eq_true (show last < 0 by omega)]
    by_cases ht : thereI st sz rt d last < 0
    · rw [if_pos (.inl ht), decide_eq_false (show ¬ 0 ≤ thereI st sz rt d last by omega)]; simp
    · rw [decide_eq_true (show 0 ≤ thereI st sz rt d last by omega)]
      by_cases hc : d < n ∧ mostI sz 1 (thereI st sz rt d last) cap = 0
      · rw [if_pos (.inr hc), decide_eq_true hc.1, hc.2]; simp
      · rw [if_neg (by omega)]
        by_cases hd' : d < n
        · rw [decide_eq_true (show 0 < mostI sz 1 (thereI st sz rt d last) cap by omega)]; simp
        · rw [decide_eq_false hd']; simp
theorem fillSet_below (d : Nat) : fillSet st sz 1 rt cap d < 2 ^ d := by
  induction d with
  | zero => simp [fillSet]
  | succ d ih =>
    rw [fillSet]
    split
    · exact with_below ih
    · exact Nat.lt_of_lt_of_le ih (Nat.pow_le_pow_right (by decide) (by omega))
theorem stepUpto_some (S d : Nat) (f : Nat → Option (Int × Int)) (h : ∀ l, l < d → S.testBit l = (f l).isSome) (j : Nat) (hj : j ≤ d + 1) :
    (stepUpto st sz rt hd cap P n f d j).isSome = (List.range j).any fun i => okLast st sz rt S d ((i : Int) - 1) && (!decide (d < n) || decide (0 < mostI sz 1 (thereI st sz rt d ((i : Int) - 1)) cap)) := by
  induction j with
  | zero => simp [stepUpto]
  | succ j ih =>
    rw [stepUpto, stepPut_some, any_succ, ih (by omega), candE_some S d f ((j : Int) - 1) (fun h0 => h _ (by omega))]
theorem fillSet_stp (m : Nat) (hm : m ≤ 64) (hmn : m ≤ n) : ∀ d, d < m → (fillSet st sz 1 rt cap m).testBit d = (stp st sz rt hd cap P n d).isSome := by
  induction m with
  | zero => intro d hd; omega
  | succ m ih =>
    have ih := ih (by omega) (by omega)
    intro d hd'
    rw [fillSet]
    by_cases e : d = m
    · subst e
      have h0 : (fillSet st sz 1 rt cap d).testBit d = false := bit_below (fillSet_below d)
      have hn : fillNow st sz 1 rt cap (fillSet st sz 1 rt cap d) d (d + 1) = (stp st sz rt hd cap P n d).isSome := by
        rw [stp_eq, stepUpto_some (fillSet st sz 1 rt cap d) d _ ih (d + 1) (Nat.le_refl _)]
        unfold fillNow fillLast
        rw [decide_eq_true (show d < n by omega)]
        simp
      rw [← hn]
      cases hb : fillNow st sz 1 rt cap (fillSet st sz 1 rt cap d) d (d + 1) with
      | true => rw [if_pos rfl, test_with' _ _ d (by omega)]; simp
      | false => rw [if_neg (by simp), h0]
    · rw [← ih d (by omega)]
      split
      · rw [test_with' _ _ d (by omega)]
        have : ¬ ((d : Int) = (m : Int)) := by omega
        have : ¬ ((m : Int) = (d : Int)) := by omega
        simp [*]
      · rfl
theorem fillsB_stp (hd : Int) (P : List Int) (hn : n ≤ 64) : fillsB st sz 1 rt cap n = (stp st sz rt hd cap P n n).isSome := by
  rw [stp_eq, stepUpto_some (fillSet st sz 1 rt cap n) n _ (fillSet_stp n hn (Nat.le_refl n)) (n + 1) (Nat.le_refl _)]
  unfold fillsB endNow
  rw [decide_eq_false (Nat.lt_irrefl n)]
  simp
end

/-- Whether anything suits a customer. -/
def easyB (kd dm : Int) (ps : List Nat) (rt sz st ru cap : Int) (n : Nat) : Bool := if kd = 1 then decide (0 < (carriedL dm cap ps).length) else canB st sz ru rt cap n
theorem found_easy {kd dm rt sz st ru hd cap : Int} {ps : List Nat} {P : List Int} {n : Nat} {V : List (Int × Int)} {b : Bool} (hn : n ≤ 20) (h : FoundBy kd dm ps rt sz st ru hd cap P n V b) : b = easyB kd dm ps rt sz st ru cap n := by
  unfold easyB
  rcases h with ⟨rfl, rfl, rfl⟩ | ⟨rfl, rfl, T, h⟩ | ⟨rfl, rfl, T, rfl, rfl⟩
  · rw [if_pos rfl, patOk_iff]
  · rw [if_neg (by decide)]
    unfold canB
    rw [if_pos rfl, fillsB_stp hd P (by omega)]
    rcases h with ⟨h, _, rfl⟩ | ⟨s, S, h, _, _, _, _, rfl⟩
    · rw [h]; rfl
    · rw [h]; rfl
  · rw [if_neg (by decide), any_daily T]
    unfold canB wayB
    rw [if_neg (by decide)]
theorem found_none {kd dm rt sz st ru hd cap : Int} {ps : List Nat} {P : List Int} {n : Nat} {V : List (Int × Int)} {b : Bool} (hf : FoundBy kd dm ps rt sz st ru hd cap P n V b) (hb : b = false) : V = [] := by
  rcases hf with ⟨_, h1, h2⟩ | ⟨_, _, _, ⟨_, h, _⟩ | ⟨s, S, _, _, _, _, _, h⟩⟩ | ⟨_, _, _, h1, h2⟩
  · rw [h1]
    unfold patV
    rw [hb] at h2
    unfold patOk at h2
    rw [if_pos (by simpa using h2.symm)]
  · exact h
  · rw [hb] at h; cases h
  · rw [h1]
    rw [hb] at h2
    unfold anyB at h2
    have h3 := Bool.or_eq_false_iff.1 h2.symm
    unfold anyV
    rw [h3.1, h3.2]; rfl

/-- All visits that suit. -/
def allV (kd dm : Int) (ps : List Nat) (rt sz st cap : Int) (n : Nat) : List (List (Int × Int)) := if kd = 1 then allP dm cap ps else allS st sz rt cap n (2 ^ n)
theorem allV_suits {kd dm : Int} {ps : List Nat} {rt sz st ru hd cap : Int} {n : Nat} (hn : n ≤ 20) (hC : CuOk n kd dm ps rt sz st ru hd) : ∀ V ∈ allV kd dm ps rt sz st cap n, suitsV kd dm ps rt sz st ru cap V n = true := by
  intro V hV
  unfold allV at hV
  rcases hC with ⟨rfl, _, _, _, _, hps, _⟩ | ⟨rfl, T⟩
  · rw [if_pos rfl] at hV
    unfold allP at hV
    obtain ⟨p, hp, rfl⟩ := List.mem_map.1 hV
    have hc := List.mem_filter.1 hp
    have h2 := hc.2
    rw [Bool.or_eq_true, decide_eq_true_eq, decide_eq_true_eq] at h2
    unfold suitsV
    rw [if_pos rfl, Bool.and_eq_true]
    refine ⟨?_, List.any_eq_true.2 ⟨p, hc.1, by simp⟩⟩
    unfold fitsV
    rw [List.all_eq_true]
    intro x hx
    obtain ⟨d, _, rfl, ht⟩ := onV_mem (hps p hc.1) hx
    rcases h2 with h2 | h2
    · have := List.length_pos_of_mem hx; omega
    · simpa using h2
  · rw [if_neg (by decide)] at hV
    unfold allS at hV
    obtain ⟨S, hS, rfl⟩ := List.mem_map.1 hV
    have hok : OkTo st sz rt cap S n := by simpa using (List.mem_filter.1 hS).2
    exact suits_fill dm ps T hn hok
theorem suits_good {kd dm : Int} {ps : List Nat} {rt sz st ru hd cap : Int} {V : List (Int × Int)} {n : Nat} (hn : n ≤ 20) (hC : CuOk n kd dm ps rt sz st ru hd) (h : suitsV kd dm ps rt sz st ru cap V n = true) : V.length ≤ 64 ∧ ∀ p ∈ V, fitsI p.2 = true := by
  have := suit_facts hn hC h
  exact ⟨this.len, fun p hp => by have := this.one p hp; exact fitsI_iff.2 (by omega)⟩

/-- What is found is the least of all. -/
theorem found_least {kd dm rt sz st ru hd cap : Int} {ps : List Nat} {P : List Int} {n : Nat} {V : List (Int × Int)} {b : Bool} (hn : n ≤ 20) (hP : PriceOk P) (hC : CuOk n kd dm ps rt sz st ru hd) (h : FoundBy kd dm ps rt sz st ru hd cap P n V b) (hru : ru ≠ 2) :
    b = decide (0 < (allV kd dm ps rt sz st cap n).length) ∧ (b = true → leastU (fun U => costV kd st rt sz hd P U n) (allV kd dm ps rt sz st cap n) (allV kd dm ps rt sz st cap n).length = costV kd st rt sz hd P V n) := by
  unfold allV
  rcases h with ⟨rfl, rfl, rfl⟩ | ⟨rfl, rfl, T, h⟩ | ⟨_, h, _⟩
  · rw [if_pos rfl]
    rcases hC with ⟨_, _, _, _, _, hps, _⟩ | ⟨h, _⟩
    · have hp64 : ∀ p ∈ ps, p < 18446744073709551616 := fun p hp => pow_le_64 (show n ≤ 64 by omega) (hps p hp)
      have hl : (allP dm cap ps).length = (carriedL dm cap ps).length := by rw [allP_eq dm cap hp64, List.length_map]
      rw [patOk_iff, hl]
      refine ⟨rfl, fun hb => ?_⟩
      have := (least_pat st rt sz hd hP dm cap hp64 n (of_decide_eq_true hb)).1
      rw [hl] at this
      exact this
    · cases h
  · rw [if_neg (by decide)]
    rcases h with ⟨h, rfl, rfl⟩ | ⟨s, S, h3, h4, h5, h6, rfl, rfl⟩
    · rw [(none_fill T h).1]
      exact ⟨rfl, fun h => by cases h⟩
    · obtain ⟨h1, h2, h7⟩ := least_fill T hn h3 h4 h5 h6
      exact ⟨(decide_eq_true h7).symm, fun _ => by rw [h1, h2]⟩
  · exact absurd h hru

/-! ### The bound -/
theorem found_bound {kd dm rt sz st ru hd cap : Int} {ps : List Nat} {P : List Int} {n : Nat} {V : List (Int × Int)} {b : Bool} (hn : n ≤ 20) (h : FoundBy kd dm ps rt sz st ru hd cap P n V b) (hru : ru ≠ 2) :
    (b = true → costV kd st rt sz hd P V n = boundI kd dm ps rt sz st ru hd cap P n) ∧ (b = false → floorI kd ps rt sz st hd cap P n = boundI kd dm ps rt sz st ru hd cap P n) := by
  unfold boundI
  rcases h with ⟨rfl, rfl, rfl⟩ | ⟨rfl, rfl, T, h⟩ | ⟨_, h, _⟩
  · rw [if_pos rfl]
    exact ⟨fun h => (by rw [if_pos h]), fun h => (by rw [h]; rfl)⟩
  · rw [if_neg (by decide), if_pos rfl]
    rcases h with ⟨h, rfl, rfl⟩ | ⟨s, S, h3, h4, h5, h6, rfl, rfl⟩
    · rw [h]
      exact ⟨fun h => (by cases h), fun _ => rfl⟩
    · rw [h3]
      exact ⟨fun _ => by rw [costV_fill P T hn h5]; exact h6, fun h => by cases h⟩
  · exact absurd h hru
theorem bound_two {kd dm rt sz st hd cap : Int} {ps : List Nat} {P : List Int} {n : Nat} (hkd : kd = 2) : floorI kd ps rt sz st hd cap P n = boundI kd dm ps rt sz st 2 hd cap P n := by
  subst hkd
  unfold boundI
  rw [if_neg (by decide), if_neg (by decide)]

theorem forcedI_bd {st rt sz ru hd cap : Int} {n : Nat} (T : TankOk st rt sz ru hd) : 0 ≤ forcedI rt st sz n cap ∧ forcedI rt st sz n cap ≤ n := by
  unfold forcedI
  split
  · omega
  · split
    · omega
    · have h0 : 0 ≤ wantsI rt st n := by unfold wantsI; omega
      have : 0 ≤ ceilI (wantsI rt st n) (min cap sz) := by unfold ceilI; exact Int.ediv_nonneg (by omega) (by omega)
      omega
theorem fewI_bd (ps : List Nat) : 0 ≤ fewI ps ∧ fewI ps ≤ 64 := few_bd ps ps.length
theorem forcedV_bd {n : Nat} {kd dm : Int} {ps : List Nat} {rt sz st ru hd : Int} (cap : Int) (hn : n ≤ 20) (hC : CuOk n kd dm ps rt sz st ru hd) : 0 ≤ forcedV kd ps rt st sz n cap ∧ forcedV kd ps rt st sz n cap ≤ 64 := by
  unfold forcedV
  rcases hC with ⟨rfl, _⟩ | ⟨rfl, T⟩
  · rw [if_pos rfl]; exact fewI_bd ps
  · rw [if_neg (by decide)]
    have := forcedI_bd (n := n) (cap := cap) T
    omega
/-- What it costs to hold at least. -/
def keepsV (kd st rt hd : Int) (n : Nat) : Int := if kd = 1 then 0 else keepsI st rt hd n
theorem floor_eq {n : Nat} {kd dm : Int} {ps : List Nat} {rt sz st ru hd : Int} (cap : Int) (P : List Int) (hC : CuOk n kd dm ps rt sz st ru hd) : floorI kd ps rt sz st hd cap P n = forcedV kd ps rt st sz n cap * minTo P n + keepsV kd st rt hd n := by
  unfold floorI forcedV keepsV
  rcases hC with ⟨rfl, _⟩ | ⟨rfl, T⟩
  · rw [if_pos rfl, if_pos rfl, if_pos rfl, Int.add_zero]
  · rw [if_neg (by decide), if_neg (by decide), if_neg (by decide)]

/-! ### Lower prices -/
theorem priceV_mono {P L : List Int} (h : ∀ d, priceAt L d ≤ priceAt P d) (V : List (Int × Int)) : priceV L V ≤ priceV P V := by
  induction V with
  | nil => simp [priceV]
  | cons p V ih =>
    have h1 := h p.1
    have e1 : priceV P (p :: V) = priceAt P p.1 + priceV P V := by simp [priceV]
    have e2 : priceV L (p :: V) = priceAt L p.1 + priceV L V := by simp [priceV]
    omega
theorem costV_mono {P L : List Int} (h : ∀ d, priceAt L d ≤ priceAt P d) (kd st rt sz hd : Int) (V : List (Int × Int)) (n : Nat) : costV kd st rt sz hd L V n ≤ costV kd st rt sz hd P V n := by
  have := priceV_mono h V
  unfold costV
  omega
theorem minTo_mono {P L : List Int} (h : ∀ d, priceAt L d ≤ priceAt P d) (k : Nat) : minTo L k ≤ minTo P k := by
  induction k with
  | zero => exact h 0
  | succ k ih =>
    have := h k
    rw [minTo, minTo]
    omega
theorem floor_mono {n : Nat} {kd dm : Int} {ps : List Nat} {rt sz st ru hd cap : Int} {P L : List Int} (hn : n ≤ 20) (hC : CuOk n kd dm ps rt sz st ru hd) (h : ∀ d, priceAt L d ≤ priceAt P d) : floorI kd ps rt sz st hd cap L n ≤ floorI kd ps rt sz st hd cap P n := by
  rw [floor_eq cap L hC, floor_eq cap P hC]
  have := Int.mul_le_mul_of_nonneg_left (minTo_mono h n) (forcedV_bd cap hn hC).1
  omega
theorem found_cheaper {kd dm rt sz st ru hd cap : Int} {ps : List Nat} {P L : List Int} {n : Nat} {V W : List (Int × Int)} {x y : Bool} (hn : n ≤ 20) (hL : PriceOk L) (hC : CuOk n kd dm ps rt sz st ru hd) (h : ∀ d, priceAt L d ≤ priceAt P d)
    (hf : FoundBy kd dm ps rt sz st ru hd cap P n V x) (hg : FoundBy kd dm ps rt sz st ru hd cap L n W y) :
    x = y ∧ boundI kd dm ps rt sz st ru hd cap L n ≤ boundI kd dm ps rt sz st ru hd cap P n ∧ (x = true → ru ≠ 2 → costV kd st rt sz hd L W n ≤ costV kd st rt sz hd P V n) := by
  have hxy : x = y := by rw [found_easy hn hf, found_easy hn hg]
  subst hxy
  have hkey : x = true → boundI kd dm ps rt sz st ru hd cap L n ≤ costV kd st rt sz hd P V n := fun hx =>
    Int.le_trans (bound_le hn hL hC (found_suits hn hC hf hx)) (costV_mono h kd st rt sz hd V n)
  refine ⟨rfl, ?_, fun hx hru => ?_⟩
  · by_cases hru : ru = 2
    · rcases hC with ⟨_, _, _, _, _, _, h0⟩ | ⟨hkd, T⟩
      · omega
      · subst hru
        rw [← bound_two hkd, ← bound_two hkd]
        exact floor_mono (dm := dm) hn (.inr ⟨hkd, T⟩) h
    · have hb := found_bound hn hf hru
      cases x with
      | true => rw [← hb.1 rfl]; exact hkey rfl
      | false =>
        rw [← hb.2 rfl, ← (found_bound hn hg hru).2 rfl]
        exact floor_mono hn hC h
  · rw [(found_bound hn hg hru).1 hx]
    exact hkey hx
end Go.Proofs.YtnhcgpkcmfelkaaGreat
