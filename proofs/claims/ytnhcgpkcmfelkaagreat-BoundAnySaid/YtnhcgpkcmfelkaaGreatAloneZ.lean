/-
  My own work: layer 11, plainly: what suits a customer: its days, its quantities, how many there must be, and that it costs no less than the bound.
-/
import Derived.Test.YtnhcgpkcmfelkaaGreatAloneX
namespace Go.Proofs.YtnhcgpkcmfelkaaGreat
open Go.RowKit
set_option linter.unusedVariables false
set_option maxRecDepth 100000

/-! ### Visits out of bringings -/
theorem visitsTo_mem (q : List Int) (k : Nat) (p : Int × Int) : p ∈ visitsTo q k ↔ ∃ j, j < k ∧ 0 < nth q j ∧ p = ((j : Int), nth q j) := by
  induction k with
  | zero => simp [visitsTo]
  | succ k ih =>
    rw [visitsTo]
    split
    · rename_i h
      rw [List.mem_append, ih, List.mem_singleton]
      constructor
      · rintro (⟨j, h1, h2, h3⟩ | rfl)
        · exact ⟨j, by omega, h2, h3⟩
        · exact ⟨k, by omega, h, rfl⟩
      · rintro ⟨j, h1, h2, h3⟩
        by_cases e : j = k
        · subst e; exact .inr h3
        · exact .inl ⟨j, by omega, h2, h3⟩
    · rename_i h
      rw [ih]
      constructor
      · rintro ⟨j, h1, h2, h3⟩
        exact ⟨j, by omega, h2, h3⟩
      · rintro ⟨j, h1, h2, h3⟩
        by_cases e : j = k
        · subst e; exact absurd h2 h
        · exact ⟨j, by omega, h2, h3⟩
theorem visitsTo_sorted (q : List Int) (k : Nat) : (visitsTo q k).Pairwise (fun a b => a.1 < b.1) := by
  induction k with
  | zero => simp [visitsTo]
  | succ k ih =>
    rw [visitsTo]
    split
    · rw [List.pairwise_append]
      refine ⟨ih, by simp, fun a ha b hb => ?_⟩
      obtain ⟨j, h1, _, rfl⟩ := (visitsTo_mem q k a).1 ha
      rw [List.mem_singleton] at hb
      subst hb
      simp only []
      omega
    · exact ih
/-- What visits bring together. -/
def broughtV (V : List (Int × Int)) : Int := (V.map fun p => p.2).sum
theorem broughtV_append (V U : List (Int × Int)) : broughtV (V ++ U) = broughtV V + broughtV U := by simp [broughtV]
theorem brought_visits (q : List Int) (hq : ∀ k, k < q.length → 0 ≤ nth q k) (k : Nat) (hk : k ≤ q.length) : broughtV (visitsTo q k) = (q.take k).sum := by
  induction k with
  | zero => simp [visitsTo, broughtV]
  | succ k ih =>
    have h0 := hq k (by omega)
    rw [visitsTo, sum_take_succ q k (by omega), ← ih (by omega)]
    split
    · rw [broughtV_append]; simp [broughtV]
    · omega
theorem brought_le {V : List (Int × Int)} {m : Int} (h : ∀ p ∈ V, p.2 ≤ m) : broughtV V ≤ m * V.length := by
  induction V with
  | nil => simp [broughtV]
  | cons p V ih =>
    have h1 := h p (List.mem_cons_self ..)
    have h2 := ih (fun x hx => h x (List.mem_cons_of_mem _ hx))
    have e : broughtV (p :: V) = p.2 + broughtV V := by simp [broughtV]
    rw [e, List.length_cons, Int.natCast_succ, Int.mul_add, Int.mul_one]
    omega
theorem priceV_ge {P : List Int} {V : List (Int × Int)} {m : Int} (h : ∀ p ∈ V, m ≤ priceAt P p.1) : m * V.length ≤ priceV P V := by
  induction V with
  | nil => simp [priceV]
  | cons p V ih =>
    have h1 := h p (List.mem_cons_self ..)
    have h2 := ih (fun x hx => h x (List.mem_cons_of_mem _ hx))
    have e : priceV P (p :: V) = priceAt P p.1 + priceV P V := by simp [priceV]
    rw [e, List.length_cons, Int.natCast_succ, Int.mul_add, Int.mul_one]
    omega

/-! ### Bringings of a tank that may be -/
structure SuitQ (st rt sz ru cap : Int) (q : List Int) (n : Nat) : Prop where
  len : q.length = n
  ok : q.all okQ = true
  day : ∀ k, k < n → okDay st rt sz q k = true
  cap : ∀ k, k < n → 0 < nth q k → nth q k ≤ cap
  full : ru = 1 → ∀ k, k < n → 0 < nth q k → noon st rt q k = sz

theorem holdsE_inv {st rt sz ru : Int} {q : List Int} (h : holdsE st rt sz ru q = 0) : (nightsE st rt sz q).1 = 0 ∧ (ru = 1 → ∀ k, k < q.length → fillsUp st rt sz q k = true) := by
  by_cases h0 : (nightsE st rt sz q).1 = 0
  · refine ⟨h0, fun hr k hk => ?_⟩
    cases hb : fillsUp st rt sz q k with
    | true => rfl
    | false => rw [holdsE_bad h0 hr hk hb] at h; cases h
  · rw [holdsE_err h0] at h; exact absurd h h0
theorem suit_of {dm : Int} {ps : List Nat} {rt sz st ru cap : Int} {V : List (Int × Int)} {n : Nat} (h : suitsV 2 dm ps rt sz st ru cap V n = true) : SuitQ st rt sz ru cap (bringsOf V n) n ∧ visitsOf (bringsOf V n) = V := by
  unfold suitsV at h
  rw [if_neg (by decide), Bool.and_eq_true, Bool.and_eq_true, decide_eq_true_eq, beq_iff_eq] at h
  obtain ⟨hf, hv, hh⟩ := h
  have hlen : (bringsOf V n).length = n := by unfold bringsOf; rw [foldl_bring_len]; simp
  obtain ⟨h0, hfull⟩ := holdsE_inv hh
  rw [hlen] at hfull
  generalize bringsOf V n = q at *
  have hday := nightsE_zero h0
  rw [hlen] at hday
  have hok : q.all okQ = true := by
    rcases nightsE_cases st rt sz q with ⟨h, _⟩ | ⟨_, h⟩ | ⟨_, h, _⟩
    · rw [h] at h0; cases h0
    · exact h
    · exact h
  refine ⟨⟨hlen, hok, hday, fun k hk hp => ?_, fun hr k hk hp => ?_⟩, hv⟩
  · have hm : ((k : Int), nth q k) ∈ V := by
      rw [← hv]
      unfold visitsOf
      exact (visitsTo_mem q _ _).2 ⟨k, by omega, hp, rfl⟩
    unfold fitsV at hf
    have := List.all_eq_true.1 hf _ hm
    simpa using this
  · have := hfull hr k hk
    unfold fillsUp at this
    rw [Bool.or_eq_true, decide_eq_true_eq, decide_eq_true_eq] at this
    omega
theorem suit_to {dm : Int} {ps : List Nat} {rt sz st ru cap : Int} {q : List Int} {n : Nat} (h : SuitQ st rt sz ru cap q n) (hn : n ≤ 20) : suitsV 2 dm ps rt sz st ru cap (visitsOf q) n = true := by
  have hb := brings_visits q h.ok (by rw [h.len]; exact hn)
  rw [h.len, show (clipI (n : Int) 0 64).toNat = n by unfold clipI; omega] at hb
  have h0 : (nightsE st rt sz q).1 = 0 := by rw [nightsE_ok h.ok (fun j hj => h.day j (by rw [← h.len]; exact hj))]
  have hh : holdsE st rt sz ru q = 0 := by
    by_cases hr : ru = 1
    · refine holdsE_ok h0 hr (fun k hk => ?_)
      rw [h.len] at hk
      unfold fillsUp
      rw [Bool.or_eq_true, decide_eq_true_eq, decide_eq_true_eq]
      by_cases hp : 0 < nth q k
      · exact .inr (h.full hr k hk hp)
      · exact .inl (by omega)
    · exact holdsE_any h0 hr
  unfold suitsV
  rw [if_neg (by decide), hb, hh, Bool.and_eq_true]
  refine ⟨?_, by simp⟩
  unfold fitsV
  rw [List.all_eq_true]
  intro p hp
  unfold visitsOf at hp
  obtain ⟨j, h1, h2, rfl⟩ := (visitsTo_mem q _ p).1 hp
  rw [h.len] at h1
  simpa using h.cap j h1 h2

section
variable {st rt sz ru hd cap : Int} {q : List Int} {n : Nat}
theorem SuitQ.nn (h : SuitQ st rt sz ru cap q n) {k : Nat} (hk : k < n) : 0 ≤ nth q k := (nth_okQ h.ok (by rw [h.len]; exact hk)).1
theorem SuitQ.morn0 (h : SuitQ st rt sz ru cap q n) (T : TankOk st rt sz ru hd) {k : Nat} (hk : k ≤ n) : 0 ≤ morn st rt q k :=
  morn_nonneg T.st0 (fun j hj => h.day j (by rw [← h.len]; exact hj)) k (by rw [h.len]; exact hk)
theorem SuitQ.le_sz (h : SuitQ st rt sz ru cap q n) (T : TankOk st rt sz ru hd) {k : Nat} (hk : k < n) : nth q k ≤ sz := by
  have h1 := okDay_bd (h.day k hk)
  have h2 := h.morn0 T (k := k) (by omega)
  unfold noon at h1
  omega
theorem SuitQ.sum_ge (h : SuitQ st rt sz ru cap q n) (T : TankOk st rt sz ru hd) : wantsI rt st n ≤ broughtV (visitsOf q) := by
  have h2 := h.morn0 T (k := n) (Nat.le_refl n)
  have h3 := sum_take_le (l := q) (fun x hx => by
    obtain ⟨i, hi, rfl⟩ := List.getElem_of_mem hx
    rw [← nth_lt hi]; exact h.nn (by rw [← h.len]; exact hi)) n
  unfold visitsOf
  rw [h.len, brought_visits q (fun k hk => h.nn (by rw [← h.len]; exact hk)) n (by rw [h.len]; exact Nat.le_refl n)]
  unfold morn at h2
  unfold wantsI
  omega
theorem visitsOf_len_le (q : List Int) : (visitsOf q).length ≤ q.length := visitsTo_len q q.length
theorem SuitQ.forced (h : SuitQ st rt sz ru cap q n) (T : TankOk st rt sz ru hd) : forcedI rt st sz n cap ≤ (visitsOf q).length := by
  have hs := h.sum_ge T
  have hle : ∀ p ∈ visitsOf q, p.2 ≤ min cap sz := by
    intro p hp
    unfold visitsOf at hp
    obtain ⟨j, h1, h2, rfl⟩ := (visitsTo_mem q _ p).1 hp
    rw [h.len] at h1
    have := h.cap j h1 h2
    have := h.le_sz T h1
    simp only []
    omega
  have hb := brought_le hle
  have hpos : ∀ p ∈ visitsOf q, 0 < p.2 := by
    intro p hp
    unfold visitsOf at hp
    obtain ⟨j, h1, h2, rfl⟩ := (visitsTo_mem q _ p).1 hp
    exact h2
  unfold forcedI
  by_cases hw : wantsI rt st n = 0
  · rw [if_pos hw]; omega
  · rw [if_neg hw]
    have hw0 : 0 < wantsI rt st n := by unfold wantsI at *; omega
    generalize wantsI rt st n = W at *
    have hc0 : 0 < (visitsOf q).length := by
      rcases Nat.eq_zero_or_pos (visitsOf q).length with h0 | h0
      · rw [h0] at hb; simp at hb; omega
      · exact h0
    have hone : 1 ≤ min cap sz := by
      obtain ⟨p, hp⟩ := List.exists_mem_of_length_pos hc0
      have := hpos p hp
      have := hle p hp
      omega
    rw [if_neg (by omega)]
    generalize min cap sz = m at *
    have : ceilI W m ≤ ((visitsOf q).length : Int) := by
      unfold ceilI
      generalize ((visitsOf q).length : Int) = c at *
      have e : m * (c + 1) = m * c + m := by rw [Int.mul_add, Int.mul_one]
      have := Int.ediv_lt_of_lt_mul (a := W + m - 1) (b := c + 1) (c := m) (by omega) (by rw [Int.mul_comm, e]; omega)
      omega
    omega
theorem SuitQ.nights (h : SuitQ st rt sz ru cap q n) : nightsE st rt sz q = (0, nightL st rt q n) := by
  have := nightsE_ok (st := st) (rt := rt) (sz := sz) h.ok (fun j hj => h.day j (by rw [← h.len]; exact hj))
  rwa [h.len] at this
theorem SuitQ.keeps (h : SuitQ st rt sz ru cap q n) (T : TankOk st rt sz ru hd) {k : Nat} (hk : k ≤ n) : keepsTo st rt k ≤ (nightL st rt q k).sum := by
  induction k with
  | zero => simp [keepsTo, nightL]
  | succ k ih =>
    have h1 := h.morn0 T (k := k + 1) hk
    have h3 := sum_take_le (l := q) (fun x hx => by
      obtain ⟨i, hi, rfl⟩ := List.getElem_of_mem hx
      rw [← nth_lt hi]; exact h.nn (by rw [← h.len]; exact hi)) (k + 1)
    rw [nightL_succ, List.sum_append]
    have h2 := ih (by omega)
    have e : keepsTo st rt (k + 1) = keepsTo st rt k + max (st - rt * ((k : Int) + 1)) 0 := rfl
    have e2 : ([morn st rt q (k + 1)] : List Int).sum = morn st rt q (k + 1) := by simp
    rw [e, e2]
    have h4 : st - rt * ((k : Int) + 1) ≤ morn st rt q (k + 1) := by unfold morn; rw [Int.natCast_succ]; omega
    omega
theorem SuitQ.brings (h : SuitQ st rt sz ru cap q n) (hn : n ≤ 20) : bringsOf (visitsOf q) n = q := by
  have hb := brings_visits q h.ok (by rw [h.len]; exact hn)
  rwa [h.len, show (clipI (n : Int) 0 64).toNat = n by unfold clipI; omega] at hb
theorem SuitQ.cost_eq (h : SuitQ st rt sz ru cap q n) (P : List Int) (hn : n ≤ 20) : costV 2 st rt sz hd P (visitsOf q) n = priceV P (visitsOf q) + hd * (nightL st rt q n).sum := by
  unfold costV
  rw [if_neg (by decide), h.brings hn, h.nights]
/-- No bringings cost less than the floor. -/
theorem SuitQ.floor (h : SuitQ st rt sz ru cap q n) (T : TankOk st rt sz ru hd) {P : List Int} (hP : PriceOk P) (hn : n ≤ 20) (ps : List Nat) : floorI 2 ps rt sz st hd cap P n ≤ costV 2 st rt sz hd P (visitsOf q) n := by
  rw [h.cost_eq P hn]
  unfold floorI keepsI
  rw [if_neg (by decide)]
  have h1 := h.forced T
  have h2 := Int.mul_le_mul_of_nonneg_left (h.keeps T (Nat.le_refl n)) T.hd0
  have h3 := minTo_bd hP n
  have h4 := Int.mul_le_mul_of_nonneg_right h1 h3.1
  have h5 : minTo P n * (visitsOf q).length ≤ priceV P (visitsOf q) := priceV_ge (fun p hp => by
    unfold visitsOf at hp
    obtain ⟨j, h1, h2, rfl⟩ := (visitsTo_mem q _ p).1 hp
    exact minTo_le P n j (by rw [← h.len]; exact h1))
  rw [Int.mul_comm] at h5
  omega
end

/-! ### Fills out of bringings -/
def bitsQ (q : List Int) : Nat → Nat
  | 0 => 0
  | k + 1 => if 0 < nth q k then withN (bitsQ q k) (k : Int) else bitsQ q k
theorem bitsQ_lt (q : List Int) (k : Nat) : bitsQ q k < 2 ^ k := by
  induction k with
  | zero => simp [bitsQ]
  | succ k ih =>
    rw [bitsQ]
    split
    · exact with_below ih
    · exact Nat.lt_of_lt_of_le ih (Nat.pow_le_pow_right (by decide) (by omega))
theorem bitsQ_test (q : List Int) (k : Nat) (hk : k ≤ 64) : ∀ j, j < k → (bitsQ q k).testBit j = decide (0 < nth q j) := by
  induction k with
  | zero => intro j hj; omega
  | succ k ih =>
    intro j hj
    rw [bitsQ]
    by_cases e : j = k
    · subst e
      have h0 : (bitsQ q j).testBit j = false := bit_below (bitsQ_lt q j)
      by_cases h : 0 < nth q j
      · rw [if_pos h, test_with' _ _ j (by omega), decide_eq_true h]; simp
      · rw [if_neg h, h0, decide_eq_false h]
    · have ih := ih (by omega) j (by omega)
      by_cases h : 0 < nth q k
      · rw [if_pos h, test_with' _ _ j (by omega), ih]
        have : ¬ ((j : Int) = (k : Int)) := by omega
        have : ¬ ((k : Int) = (j : Int)) := by omega
        simp [*]
      · rw [if_neg h, ih]

section
variable {st rt sz hd cap : Int} {q : List Int} {n : Nat}
theorem SuitQ.tS_eq (h : SuitQ st rt sz 1 cap q n) (hn : n ≤ 20) {k : Nat} (hk : k ≤ n) : tS st sz rt (bitsQ q n) k = morn st rt q k := by
  induction k with
  | zero => simp [tS, morn]
  | succ k ih =>
    have ih := ih (by omega)
    have hb := bitsQ_test q n (by omega) k (by omega)
    rw [morn_succ _ _ _ _ (by rw [h.len]; omega)]
    by_cases hp : 0 < nth q k
    · rw [tS_yes (by rw [hb]; exact decide_eq_true hp), h.full rfl k (by omega) hp]
    · have h0 := h.nn (k := k) (by omega)
      rw [tS_no (by rw [hb]; exact decide_eq_false hp), ih]
      unfold noon
      omega
theorem SuitQ.fills (h : SuitQ st rt sz 1 cap q n) (T : TankOk st rt sz 1 hd) (hn : n ≤ 20) : OkTo st sz rt cap (bitsQ q n) n ∧ fillQ st sz rt (bitsQ q n) n = q := by
  constructor
  · intro k hk
    refine ⟨fun hb => ?_, by rw [h.tS_eq hn (show k + 1 ≤ n by omega)]; exact h.morn0 T (by omega)⟩
    rw [bitsQ_test q n (by omega) k hk, decide_eq_true_eq] at hb
    have h1 := h.full rfl k hk hb
    have h2 := h.cap k hk hb
    unfold fitF
    rw [h.tS_eq hn (by omega)]
    unfold noon at h1
    omega
  · apply ext_nth
    · rw [fillQ_len, h.len]
    · intro k hk
      rw [fillQ_len] at hk
      rw [nth_fillQ hk]
      unfold qS
      have hb := bitsQ_test q n (by omega) k hk
      by_cases hp : 0 < nth q k
      · rw [if_pos (by rw [hb]; exact decide_eq_true hp), h.tS_eq hn (by omega)]
        have := h.full rfl k hk hp
        unfold noon at this
        omega
      · rw [if_neg (by rw [hb]; simpa using hp)]
        have := h.nn hk
        omega
end

/-! ### Customers -/
/-- A customer that may be, for so many days, in these laws. -/
def CuOk (n : Nat) (kd dm : Int) (ps : List Nat) (rt sz st ru hd : Int) : Prop :=
  (kd = 1 ∧ 1 ≤ dm ∧ dm ≤ 15 ∧ ps.length ≤ 1000 ∧ 1 ≤ ps.length ∧ (∀ p ∈ ps, p < 2 ^ n) ∧ ru = 0) ∨ (kd = 2 ∧ TankOk st rt sz ru hd)
theorem good_ok {n : Nat} {C : Cu} (h : GoodC n C) : CuOk n C.kd C.dm C.ps C.rt C.sz C.st C.ru C.hd := by
  rcases good_tank h with h1 | h2
  · rcases h with ⟨h, _⟩ | ⟨_, a, b, _, _, _, r, _, c, d, e⟩
    · omega
    · exact .inl ⟨h1, a, b, by omega, c, e, r⟩
  · exact .inr h2

theorem pow_le_64 {n p : Nat} (hn : n ≤ 64) (h : p < 2 ^ n) : p < 18446744073709551616 := by
  have := Nat.pow_le_pow_right (show 0 < 2 by decide) hn
  have e : (2 : Nat) ^ 64 = 18446744073709551616 := by decide
  omega
theorem onV_mem {dm : Int} {p n : Nat} (hp : p < 2 ^ n) {x : Int × Int} (hx : x ∈ onV dm p) : ∃ d : Nat, d < n ∧ x = ((d : Int), dm) ∧ p.testBit d = true := by
  unfold onV at hx
  obtain ⟨d, hd, rfl⟩ := List.mem_map.1 hx
  obtain ⟨h0, h1⟩ := all_bd p 0 64 d hd
  obtain ⟨k, rfl⟩ := Int.eq_ofNat_of_zero_le h0
  have hb := ((mem_all p 0 64 k (by omega)).1 hd).2
  refine ⟨k, ?_, rfl, hb⟩
  rcases Nat.lt_or_ge k n with h | h
  · exact h
  · rw [Nat.testBit_lt_two_pow (Nat.lt_of_lt_of_le hp (Nat.pow_le_pow_right (by decide) h))] at hb
    cases hb
theorem onV_sorted (dm : Int) (p : Nat) : (onV dm p).Pairwise (fun a b => a.1 < b.1) := by
  unfold onV
  rw [List.pairwise_map]
  exact all_sorted p 0 64
theorem fewI_le {ps : List Nat} {p : Nat} (h : p ∈ ps) : fewI ps ≤ lenI p := by
  obtain ⟨i, hi, rfl⟩ := List.getElem_of_mem h
  rw [← nthN_lt hi]
  exact few_le ps ps.length i hi
theorem onV_len_eq (dm : Int) (p : Nat) : ((onV dm p).length : Int) = lenI p := by unfold onV lenI; rw [List.length_map]

/-- What suits, of patterns. -/
theorem suit_pat {dm : Int} {ps : List Nat} {rt sz st ru cap : Int} {V : List (Int × Int)} {n : Nat} (hn : n ≤ 20) (hps : ∀ p ∈ ps, p < 2 ^ n) (h : suitsV 1 dm ps rt sz st ru cap V n = true) : ∃ p, p ∈ ps ∧ p ∈ carriedL dm cap ps ∧ V = onV dm p := by
  unfold suitsV at h
  rw [if_pos rfl, Bool.and_eq_true, List.any_eq_true] at h
  obtain ⟨hf, p, hp, hv⟩ := h
  rw [decide_eq_true_eq] at hv
  subst hv
  refine ⟨p, hp, ?_, rfl⟩
  unfold carriedL
  refine List.mem_filter.2 ⟨hp, ?_⟩
  rw [Bool.or_eq_true, decide_eq_true_eq, decide_eq_true_eq]
  by_cases h0 : p = 0
  · exact .inl h0
  · right
    have hne : 0 < (onV dm p).length := by
      rcases Nat.eq_zero_or_pos (onV dm p).length with h | h
      · unfold onV at h
        rw [List.length_map] at h
        exfalso
        apply h0
        apply Nat.eq_of_testBit_eq
        intro k
        rw [Nat.zero_testBit]
        by_cases hk : k < 64
        · cases hb : p.testBit k with
          | false => rfl
          | true =>
            obtain ⟨m, hm, _⟩ := all_find p hk hb
            omega
        · exact Nat.testBit_lt_two_pow (Nat.lt_of_lt_of_le (hps p hp) (Nat.pow_le_pow_right (by decide) (by omega)))
      · exact h
    obtain ⟨x, hx⟩ := List.exists_mem_of_length_pos hne
    unfold fitsV at hf
    have h1 := List.all_eq_true.1 hf x hx
    obtain ⟨d, _, rfl, _⟩ := onV_mem (hps p hp) hx
    simpa using h1

/-- What visits that suit are. -/
structure SuitF (kd rt st sz cap : Int) (n : Nat) (few : Int) (V : List (Int × Int)) : Prop where
  len : V.length ≤ 64
  one : ∀ p ∈ V, 0 ≤ p.1 ∧ p.1 < n ∧ 1 ≤ p.2 ∧ p.2 ≤ cap ∧ p.2 ≤ 100
  sorted : V.Pairwise (fun a b => a.1 < b.1)
  few : few ≤ V.length
  wants : kd = 1 ∨ wantsI rt st n ≤ broughtV V

/-- Forced visits. -/
def forcedV (kd : Int) (ps : List Nat) (rt st sz : Int) (n : Nat) (cap : Int) : Int := if kd = 1 then fewI ps else forcedI rt st sz n cap

theorem suit_facts {kd dm : Int} {ps : List Nat} {rt sz st ru hd cap : Int} {V : List (Int × Int)} {n : Nat} (hn : n ≤ 20) (hC : CuOk n kd dm ps rt sz st ru hd) (h : suitsV kd dm ps rt sz st ru cap V n = true) :
    SuitF kd rt st sz cap n (forcedV kd ps rt st sz n cap) V := by
  rcases hC with ⟨rfl, hd1, hd2, _, _, hps, _⟩ | ⟨rfl, T⟩
  · obtain ⟨p, hp, hc, rfl⟩ := suit_pat hn hps h
    have hdc : ∀ x ∈ onV dm p, dm ≤ cap := fun x hx => by
      unfold suitsV at h
      rw [Bool.and_eq_true] at h
      have h1 := List.all_eq_true.1 h.1 x hx
      obtain ⟨d, _, rfl, _⟩ := onV_mem (hps p hp) hx
      simpa using h1
    refine ⟨by unfold onV; rw [List.length_map]; exact allUpto_len _ _ _, fun x hx => ?_, onV_sorted dm p, ?_, .inl rfl⟩
    · have hc := hdc x hx
      obtain ⟨d, h1, rfl, _⟩ := onV_mem (hps p hp) hx
      simp only []
      omega
    · unfold forcedV
      rw [if_pos rfl, onV_len_eq]
      exact fewI_le hp
  · obtain ⟨hq, hv⟩ := suit_of h
    generalize bringsOf V n = q at *
    subst hv
    have hl := visitsOf_len_le q
    refine ⟨by rw [hq.len] at hl; omega, fun x hx => ?_, visitsTo_sorted q _, ?_, .inr (hq.sum_ge T)⟩
    · unfold visitsOf at hx
      obtain ⟨j, h1, h2, rfl⟩ := (visitsTo_mem q _ x).1 hx
      rw [hq.len] at h1
      have h3 := hq.cap j h1 h2
      have h4 := hq.le_sz T h1
      have h5 := T.sz1
      simp only []
      omega
    · unfold forcedV
      rw [if_neg (by decide)]
      exact hq.forced T

/-- The bound is never above what visits that suit cost. -/
theorem bound_le {kd dm : Int} {ps : List Nat} {rt sz st ru hd cap : Int} {V : List (Int × Int)} {n : Nat} {P : List Int} (hn : n ≤ 20) (hP : PriceOk P) (hC : CuOk n kd dm ps rt sz st ru hd) (h : suitsV kd dm ps rt sz st ru cap V n = true) :
    boundI kd dm ps rt sz st ru hd cap P n ≤ costV kd st rt sz hd P V n := by
  rcases hC with ⟨rfl, hd1, hd2, _, _, hps, _⟩ | ⟨rfl, T⟩
  · obtain ⟨p, hp, hc, rfl⟩ := suit_pat hn hps h
    have hpos : 0 < (carriedL dm cap ps).length := List.length_pos_of_mem hc
    obtain ⟨p', h1, h2, h3⟩ := pat_least (P := P) dm cap ps hpos
    unfold boundI
    rw [if_pos rfl, if_pos (by rw [patOk_iff]; exact decide_eq_true hpos), h2, cost1 st rt sz hd hP, cost1 st rt sz hd hP]
    exact h3 p hc
  · obtain ⟨hq, hv⟩ := suit_of h
    generalize bringsOf V n = q at *
    subst hv
    have hfl := hq.floor T hP hn ps
    unfold boundI
    rw [if_neg (by decide)]
    by_cases hr : ru = 1
    · subst hr
      rw [if_pos rfl]
      obtain ⟨hok, hfq⟩ := hq.fills T hn
      obtain ⟨s, hs, hle⟩ := stp_le (hd := hd) (cap := cap) (P := P) T.st0 n (Nat.le_refl n) _ hok (fun h => absurd h (Nat.lt_irrefl n))
      rw [if_neg (Nat.lt_irrefl n)] at hle
      rw [hs]
      simp only []
      rw [← hfq, costV_fill P T hn hok]
      omega
    · rw [if_neg hr]
      exact hfl

theorem way_suits {late : Bool} {sz rt cap st hd : Int} {n : Nat} (T : TankOk st rt sz 2 hd) (h : wayB late sz rt cap st n = true) : SuitQ st rt sz 2 cap (wayQ late sz 2 rt cap st n) n := by
  have z0 := T.sz0
  have z1 := T.sz1
  unfold wayB at h
  rw [beq_iff_eq, holdsE_zero] at h
  have hday := nightsE_zero h
  rw [wayQ_len] at hday
  refine ⟨wayQ_len n, way_okQ (by omega) (by omega) n, hday, fun k hk hp => ?_, fun hr => absurd hr (by decide)⟩
  rw [nth_wayQ k n hk] at hp ⊢
  unfold bringI at hp ⊢
  split
  · rename_i h; rw [if_pos h] at hp; omega
  · rename_i h
    rw [if_neg h] at hp
    unfold mostI at hp ⊢
    split
    · rename_i h; rw [if_pos h] at hp; omega
    · split
      · assumption
      · split
        · omega
        · omega
theorem found_suits {kd dm rt sz st ru hd cap : Int} {ps : List Nat} {P : List Int} {n : Nat} {V : List (Int × Int)} {b : Bool} (hn : n ≤ 20) (hC : CuOk n kd dm ps rt sz st ru hd) (h : FoundBy kd dm ps rt sz st ru hd cap P n V b) (hb : b = true) :
    suitsV kd dm ps rt sz st ru cap V n = true := by
  subst hb
  rcases h with ⟨rfl, rfl, hb⟩ | ⟨rfl, rfl, T, ⟨_, _, h⟩ | ⟨s, S, h3, h4, h5, h6, rfl, _⟩⟩ | ⟨rfl, rfl, T, rfl, hb⟩
  · have hp : 0 < (carriedL dm cap ps).length := by rw [patOk_iff] at hb; simpa using hb.symm
    obtain ⟨p, hp1, hp2, _⟩ := pat_least (P := P) dm cap ps hp
    rw [hp2]
    unfold suitsV
    rw [if_pos rfl, Bool.and_eq_true]
    have hc := List.mem_filter.1 hp1
    refine ⟨?_, List.any_eq_true.2 ⟨p, hc.1, by simp⟩⟩
    unfold fitsV
    rw [List.all_eq_true]
    intro x hx
    rcases hC with ⟨_, _, _, _, _, hps, _⟩ | ⟨h, _⟩
    · obtain ⟨d, _, rfl, ht⟩ := onV_mem (hps p hc.1) hx
      have h2 := hc.2
      rw [Bool.or_eq_true, decide_eq_true_eq, decide_eq_true_eq] at h2
      rcases h2 with h2 | h2
      · subst h2; rw [Nat.zero_testBit] at ht; cases ht
      · simpa using h2
    · cases h
  · cases h
  · exact suits_fill dm ps T hn h5
  · unfold anyB at hb
    unfold anyV
    by_cases hl : lateB st sz rt hd cap P n = true
    · rw [if_pos hl]
      unfold lateB at hl
      rw [Bool.and_eq_true] at hl
      exact suit_to (way_suits T hl.1) hn
    · rw [if_neg hl]
      have hl' : lateB st sz rt hd cap P n = false := by simpa using hl
      rw [hl', Bool.false_or] at hb
      rw [if_pos hb.symm]
      exact suit_to (way_suits T hb.symm) hn
end Go.Proofs.YtnhcgpkcmfelkaaGreat
