/-
  My own work: layer 11, plainly: the cheapest pattern, the least of all visits, the bound.
-/
import Derived.Test.YtpelbfjhljlbkaaAloneU
import Derived.Test.YtpelbfjhljlbkaaAloneR
namespace Go.Proofs.Ytpelbfjhljlbkaa
open Go.RowKit
set_option linter.unusedVariables false
set_option maxRecDepth 100000

/-- Prices from 0 to 1000. -/
def PriceOk (P : List Int) : Prop := ∀ x ∈ P, 0 ≤ x ∧ x ≤ 1000
theorem PriceOk.at_ {P : List Int} (h : PriceOk P) : ∀ d, 0 ≤ priceAt P d ∧ priceAt P d ≤ 1000 := priceAt_bd h
theorem PriceOk.fits {P : List Int} (h : PriceOk P) : ∀ x ∈ P, fitsI x = true := fun x hx => by have := h x hx; exact fitsI_iff.2 (by omega)

theorem price_fold {P : List Int} (h : PriceOk P) (xs : List Int) (hx : ∀ x ∈ xs, 0 ≤ x) (acc : Int) (ha : 0 ≤ acc) (hl : acc + 1000 * xs.length ≤ 1000000000) : xs.foldl (priceStep P) acc = acc + (xs.map fun d => priceAt P d).sum := by
  induction xs generalizing acc with
  | nil => simp
  | cons x xs ih =>
    have h0 := hx x (List.mem_cons_self ..)
    have hb := h.at_ x
    have hs : priceStep P acc x = acc + priceAt P x := by
      unfold priceStep priceAt
      by_cases hd : x < (P.length : Int)
      · rw [if_pos hd, if_pos ⟨h0, hd⟩]
        have h1 := h _ (nth_mem (show x.toNat < P.length by omega))
        exact sat_fit (fitsI_iff.2 (by simp at hl; omega))
      · rw [if_neg hd, if_neg (by omega)]; omega
    rw [List.foldl_cons, hs, ih (fun y hy => hx y (List.mem_cons_of_mem _ hy)) _ (by omega) (by simp at hl; omega)]
    simp
    omega
theorem price_same {P : List Int} (h : PriceOk P) (dm : Int) (p : Nat) : priceI P p = priceV P (onV dm p) := by
  unfold priceI priceUpto
  have hlen := allUpto_len p 0 64
  rw [List.take_of_length_le hlen, price_fold h _ (fun x hx => (all_bd p 0 64 x hx).1) 0 (by omega) (by omega)]
  unfold priceV onV
  rw [List.map_map]
  simp
  rfl
theorem cost1 (st rt sz hd : Int) {P : List Int} (h : PriceOk P) (dm : Int) (p n : Nat) : costV 1 st rt sz hd P (onV dm p) n = priceI P p := by
  unfold costV
  rw [if_pos rfl, price_same h dm p]; omega
theorem best_min (P : List Int) (l : List Nat) (k : Nat) (hk : 0 < k) : 0 ≤ (bestUpto P l k).1 ∧ (bestUpto P l k).1 < k ∧ (bestUpto P l k).2 = priceI P (nthN l (bestUpto P l k).1.toNat) ∧ ∀ j, j < k → (bestUpto P l k).2 ≤ priceI P (nthN l j) := by
  induction k with
  | zero => omega
  | succ k ih =>
    rw [bestUpto]
    by_cases hc : (bestUpto P l k).1 < 0 ∨ priceI P (nthN l k) < (bestUpto P l k).2
    · rw [if_pos hc]
      simp only []
      refine ⟨by omega, by omega, by rw [Int.toNat_natCast], fun j hj => ?_⟩
      by_cases e : j = k
      · subst e; exact Int.le_refl _
      · have := ih (by omega)
        have h2 := this.2.2.2 j (by omega)
        rcases hc with hc | hc
        · omega
        · omega
    · rw [if_neg hc]
      have hk0 : 0 < k := by
        rcases Nat.eq_zero_or_pos k with h | h
        · subst h; exfalso; apply hc; left; simp [bestUpto]
        · exact h
      obtain ⟨h1, h2, h3, h4⟩ := ih hk0
      refine ⟨h1, by omega, h3, fun j hj => ?_⟩
      by_cases e : j = k
      · subst e; omega
      · exact h4 j (by omega)
theorem onV_len (dm : Int) {p : Nat} (hp : p < 18446744073709551616) : (onV dm p).length = 0 ↔ p = 0 := by
  unfold onV
  rw [List.length_map]
  constructor
  · intro h
    apply Nat.eq_of_testBit_eq
    intro k
    rw [Nat.zero_testBit]
    by_cases hk : k < 64
    · cases hb : p.testBit k with
      | false => rfl
      | true =>
        obtain ⟨m, hm, _⟩ := all_find p hk hb
        omega
    · exact test_over hp (by omega)
  · intro h
    subst h
    unfold allUpto
    rw [List.length_map]
    simp
theorem allP_eq (dm cap : Int) {ps : List Nat} (hps : ∀ p ∈ ps, p < 18446744073709551616) : allP dm cap ps = (carriedL dm cap ps).map (onV dm) := by
  unfold allP carriedL
  congr 1
  apply List.filter_congr
  intro p hp
  have := onV_len dm (hps p hp)
  by_cases h : p = 0
  · rw [decide_eq_true h, decide_eq_true (this.2 h)]
  · rw [decide_eq_false h, decide_eq_false (fun h' => h (this.1 h'))]
theorem patOk_iff (dm cap : Int) (ps : List Nat) (P : List Int) : patOk dm cap ps P = decide (0 < (carriedL dm cap ps).length) := by
  unfold patOk patB
  rcases Nat.eq_zero_or_pos (carriedL dm cap ps).length with h | h
  · rw [h]; simp [bestUpto]
  · have := (best_min P (carriedL dm cap ps) _ h).1
    rw [decide_eq_true h, decide_eq_false (by omega)]; rfl
/-- The cheapest pattern is the least of all. -/
theorem least_pat (st rt sz hd : Int) {P : List Int} (h : PriceOk P) (dm cap : Int) {ps : List Nat} (hps : ∀ p ∈ ps, p < 18446744073709551616) (n : Nat) (hp : 0 < (carriedL dm cap ps).length) :
    leastU (fun V => costV 1 st rt sz hd P V n) (allP dm cap ps) (allP dm cap ps).length = costV 1 st rt sz hd P (patV dm cap ps P) n ∧ ∃ p, p ∈ carriedL dm cap ps ∧ patV dm cap ps P = onV dm p := by
  obtain ⟨h1, h2, h3, h4⟩ := best_min P (carriedL dm cap ps) _ hp
  have hv : patV dm cap ps P = onV dm (nthN (carriedL dm cap ps) (bestUpto P (carriedL dm cap ps) (carriedL dm cap ps).length).1.toNat) := by
    unfold patV patB
    rw [if_neg (by omega)]
  have hm : nthN (carriedL dm cap ps) (bestUpto P (carriedL dm cap ps) (carriedL dm cap ps).length).1.toNat ∈ carriedL dm cap ps := nthN_mem (by omega)
  refine ⟨?_, _, hm, hv⟩
  refine leastU_eq (f := fun V => costV 1 st rt sz hd P V n) ?_ ?_
  · rw [allP_eq dm cap hps, hv]
    exact List.mem_map.2 ⟨_, hm, rfl⟩
  · intro U hU
    rw [allP_eq dm cap hps] at hU
    obtain ⟨q, hq, rfl⟩ := List.mem_map.1 hU
    obtain ⟨j, hj, rfl⟩ := List.getElem_of_mem hq
    rw [hv, cost1 st rt sz hd h, cost1 st rt sz hd h, ← h3, ← nthN_lt hj]
    exact h4 j hj
/-- The cheapest fills are the least of all. -/
theorem least_fill {st sz rt ru hd cap : Int} {P : List Int} {n S : Nat} {s : Int × Int} (T : TankOk st rt sz ru hd) (hn : n ≤ 20) (hs : stp st sz rt hd cap P n n = some s) (hbit : ∀ k, n ≤ k → S.testBit k = false) (hok : OkTo st sz rt cap S n) (hc : costS st sz rt hd P S n = s.1) :
    leastU (fun V => costV 2 st rt sz hd P V n) (allS st sz rt cap n (2 ^ n)) (allS st sz rt cap n (2 ^ n)).length = s.1 ∧ costV 2 st rt sz hd P (visitsOf (fillQ st sz rt S n)) n = s.1 ∧ 0 < (allS st sz rt cap n (2 ^ n)).length := by
  have h1 := costV_fill P T hn hok
  have hm : visitsOf (fillQ st sz rt S n) ∈ allS st sz rt cap n (2 ^ n) := by
    unfold allS
    refine List.mem_map.2 ⟨S, List.mem_filter.2 ⟨?_, by simpa using hok⟩, rfl⟩
    exact List.mem_range.2 (Nat.lt_pow_two_of_testBit S hbit)
  refine ⟨?_, by rw [h1, hc], List.length_pos_of_mem hm⟩
  rw [← hc, ← h1]
  refine leastU_eq (f := fun V => costV 2 st rt sz hd P V n) hm (fun U hU => ?_)
  unfold allS at hU
  obtain ⟨R, hR, rfl⟩ := List.mem_map.1 hU
  have hokR : OkTo st sz rt cap R n := by simpa using (List.mem_filter.1 hR).2
  rw [h1, hc, costV_fill P T hn hokR]
  obtain ⟨y, hy, hle⟩ := stp_le (hd := hd) (cap := cap) (P := P) T.st0 n (Nat.le_refl n) R hokR (fun h => absurd h (Nat.lt_irrefl n))
  rw [hs] at hy
  simp only [Option.some.injEq] at hy
  subst hy
  rw [if_neg (Nat.lt_irrefl n)] at hle
  omega
theorem none_fill {st sz rt ru hd cap : Int} {P : List Int} {n : Nat} (T : TankOk st rt sz ru hd) (hs : stp st sz rt hd cap P n n = none) : allS st sz rt cap n (2 ^ n) = [] ∧ ∀ S, ¬ OkTo st sz rt cap S n := by
  have key : ∀ S, ¬ OkTo st sz rt cap S n := fun S hok => by
    obtain ⟨y, hy, hle⟩ := stp_le (hd := hd) (cap := cap) (P := P) T.st0 n (Nat.le_refl n) S hok (fun h => absurd h (Nat.lt_irrefl n))
    rw [hs] at hy; simp at hy
  refine ⟨?_, key⟩
  unfold allS
  rw [List.map_eq_nil_iff, List.filter_eq_nil_iff]
  intro S _
  simp
  exact key S
theorem allS_good {st sz rt ru hd cap : Int} {n k : Nat} (T : TankOk st rt sz ru hd) (hn : n ≤ 20) : ∀ V ∈ allS st sz rt cap n k, V.length ≤ 64 ∧ ∀ p ∈ V, fitsI p.2 = true := by
  intro V hV
  unfold allS at hV
  obtain ⟨S, hS, rfl⟩ := List.mem_map.1 hV
  have hok : OkTo st sz rt cap S n := by simpa using (List.mem_filter.1 hS).2
  have h1 := visitsTo_len (fillQ st sz rt S n) n
  refine ⟨by unfold visitsOf; rw [fillQ_len]; omega, ?_⟩
  unfold visitsOf
  exact visitsTo_fits _ (fill_okQ T (by omega) (fun k hk => (hok k hk).1)) _ (Nat.le_refl _)
theorem allP_good {dm cap : Int} {ps : List Nat} (hdm : fitsI dm = true) : ∀ V ∈ allP dm cap ps, V.length ≤ 64 ∧ ∀ p ∈ V, fitsI p.2 = true := by
  intro V hV
  unfold allP at hV
  obtain ⟨p, _, rfl⟩ := List.mem_map.1 hV
  refine ⟨by unfold onV; rw [List.length_map]; exact allUpto_len _ _ _, fun x hx => ?_⟩
  unfold onV at hx
  obtain ⟨d, _, rfl⟩ := List.mem_map.1 hx
  exact hdm

/-- The least price of the first days. -/
def minTo (P : List Int) : Nat → Int
  | 0 => priceAt P 0
  | k + 1 => min (minTo P k) (priceAt P k)
theorem minTo_bd {P : List Int} (h : PriceOk P) (k : Nat) : 0 ≤ minTo P k ∧ minTo P k ≤ 1000 := by
  induction k with
  | zero => exact h.at_ 0
  | succ k ih =>
    have := h.at_ k
    rw [minTo]
    omega
theorem minTo_le (P : List Int) (k d : Nat) (hd : d < k) : minTo P k ≤ priceAt P d := by
  induction k with
  | zero => omega
  | succ k ih =>
    rw [minTo]
    by_cases e : d = k
    · subst e; omega
    · have := ih (by omega); omega
/-- What no visits cost less than, by the least price. -/
def floorI (kd : Int) (ps : List Nat) (rt sz st hd cap : Int) (P : List Int) (n : Nat) : Int :=
  if kd = 1 then fewI ps * minTo P n else forcedI rt st sz n cap * minTo P n + keepsI st rt hd n
def boundI (kd dm : Int) (ps : List Nat) (rt sz st ru hd cap : Int) (P : List Int) (n : Nat) : Int :=
  if kd = 1 then (if patOk dm cap ps P = true then costV 1 st rt sz hd P (patV dm cap ps P) n else floorI 1 ps rt sz st hd cap P n)
  else if ru = 1 then (match stp st sz rt hd cap P n n with | some s => s.1 | none => floorI 2 ps rt sz st hd cap P n)
  else floorI 2 ps rt sz st hd cap P n
end Go.Proofs.Ytpelbfjhljlbkaa
