/-
  My own work: what alone.Solve finds: with a greater capacity something is found where it was, and costs no more.
-/
import Derived.Test.YtnhcgpkcmfelkaaGreatMAm
import Derived.Test.YtnhcgpkcmfelkaaGreatAloneO
import Derived.Test.YtnhcgpkcmfelkaaGreatAloneP
import Derived.Test.YtnhcgpkcmfelkaaGreatMStock
import Derived.Test.YtnhcgpkcmfelkaaGreatPolicyH
namespace Go.Proofs.YtnhcgpkcmfelkaaGreat
open Go.RowKit
set_option linter.unusedVariables false
set_option maxRecDepth 100000

/-- What Solve found. -/
def FoundBy (kd dm : Int) (ps : List Nat) (rt sz st ru hd cap : Int) (P : List Int) (n : Nat) (V : List (Int × Int)) (b : Bool) : Prop :=
  (kd = 1 ∧ V = patV dm cap ps P ∧ b = patOk dm cap ps P) ∨
  (kd = 2 ∧ ru = 1 ∧ TankOk st rt sz ru hd ∧ ((stp st sz rt hd cap P n n = none ∧ V = [] ∧ b = false) ∨
    ∃ s S, stp st sz rt hd cap P n n = some s ∧ (∀ k, n ≤ k → S.testBit k = false) ∧ OkTo st sz rt cap S n ∧ costS st sz rt hd P S n = s.1 ∧ V = visitsOf (fillQ st sz rt S n) ∧ b = true)) ∨
  (kd = 2 ∧ ru = 2 ∧ TankOk st rt sz ru hd ∧ V = anyV st sz rt hd cap P n ∧ b = anyB st sz rt hd cap P n)

theorem solve_is (kd dm : Int) (pt pv : Value) (rt sz st ru hd cap : Int) (n : Nat) (ps : List Nat) (P : List Int) (w : World) (hG : GoodC n ⟨kd, dm, ps, rt, sz, st, ru, hd⟩) (hn : n ≤ 20) (hp : Words w pt ps) (hP : Ints w pv P) (hPo : PriceOk P) :
    Calls Tryz.prog 83 #[.agg #[.int .i64 kd, .int .i64 dm, pt, .int .i64 rt, .int .i64 sz, .int .i64 st, .int .i64 ru, .int .i64 hd], .int .i64 n, .int .i64 cap, pv] w (fun e w' => ∃ V b, FoundBy kd dm ps rt sz st ru hd cap P n V b ∧ SolveOut w V b e w') := by
  have hps := good_ps (show n ≤ 64 by omega) hG
  rcases good_tank hG with h | ⟨h, T⟩
  · simp only at h hps
    subst h
    exact (solve1_is dm pt pv rt sz st ru hd cap n ps P w hp hps.1 hps.2 hP hPo.fits).mono fun e w' h => ⟨_, _, .inl ⟨rfl, rfl, rfl⟩, h⟩
  · simp only at h T
    subst h
    rcases T.ru with rfl | rfl
    · refine (solveF_is dm pt pv rt sz st hd cap n P w T hn hP hPo.at_).mono fun e w' h => ?_
      rcases h with ⟨h1, h2⟩ | ⟨s, S, h1, h2, h3, h4, h5⟩
      · exact ⟨_, _, .inr (.inl ⟨rfl, rfl, T, .inl ⟨h1, rfl, rfl⟩⟩), h2⟩
      · exact ⟨_, _, .inr (.inl ⟨rfl, rfl, T, .inr ⟨s, S, h1, h2, h3, h4, rfl, rfl⟩⟩), h5⟩
    · exact (solveW_is dm pt pv rt sz st hd cap n P w T hn hP hPo.at_).mono fun e w' h => ⟨_, _, .inr (.inr ⟨rfl, rfl, T, rfl, rfl⟩), h⟩

theorem on_good {dm : Int} (hdm : fitsI dm = true) (p : Nat) : (onV dm p).length ≤ 64 ∧ ∀ x ∈ onV dm p, fitsI x.2 = true := by
  refine ⟨by unfold onV; rw [List.length_map]; exact allUpto_len _ _ _, fun x hx => ?_⟩
  unfold onV at hx
  obtain ⟨d, _, rfl⟩ := List.mem_map.1 hx
  exact hdm
theorem pat_good {dm : Int} (hdm : fitsI dm = true) (cap : Int) (ps : List Nat) (P : List Int) : (patV dm cap ps P).length ≤ 64 ∧ ∀ x ∈ patV dm cap ps P, fitsI x.2 = true := by
  unfold patV
  split
  · simp
  · exact on_good hdm _
theorem any_good {st rt sz hd cap : Int} {P : List Int} {n : Nat} (T : TankOk st rt sz 2 hd) (hn : n ≤ 20) : (anyV st sz rt hd cap P n).length ≤ 64 ∧ ∀ x ∈ anyV st sz rt hd cap P n, fitsI x.2 = true := by
  have z0 := T.sz0
  have z1 := T.sz1
  have h : ∀ late, (wayV late sz rt cap st n).length ≤ 64 ∧ ∀ x ∈ wayV late sz rt cap st n, fitsI x.2 = true := fun late => ⟨by have := wayV_len late sz rt cap st n; omega, wayV_fits (show 0 ≤ sz by omega) (by omega)⟩
  unfold anyV
  split
  · exact h true
  · split
    · exact h false
    · simp
theorem fill_good {st sz rt ru hd cap : Int} {n S : Nat} (T : TankOk st rt sz ru hd) (hn : n ≤ 20) (hok : OkTo st sz rt cap S n) : (visitsOf (fillQ st sz rt S n)).length ≤ 64 ∧ ∀ x ∈ visitsOf (fillQ st sz rt S n), fitsI x.2 = true := by
  have h1 := visitsTo_len (fillQ st sz rt S n) n
  refine ⟨by unfold visitsOf; rw [fillQ_len]; omega, ?_⟩
  unfold visitsOf
  exact visitsTo_fits _ (fill_okQ T (by omega) (fun k hk => (hok k hk).1)) _ (Nat.le_refl _)
theorem found_good {kd dm rt sz st ru hd cap : Int} {ps : List Nat} {P : List Int} {n : Nat} {V : List (Int × Int)} {b : Bool} (hdm : fitsI dm = true) (hn : n ≤ 20) (h : FoundBy kd dm ps rt sz st ru hd cap P n V b) : V.length ≤ 64 ∧ ∀ x ∈ V, fitsI x.2 = true := by
  rcases h with ⟨_, rfl, _⟩ | ⟨_, _, T, ⟨_, rfl, _⟩ | ⟨s, S, _, _, hok, _, rfl, _⟩⟩ | ⟨_, rfl, T, rfl, _⟩
  · exact pat_good hdm _ _ _
  · simp
  · exact fill_good T hn hok
  · exact any_good T hn

theorem pat_least {P : List Int} (dm cap : Int) (ps : List Nat) (hp : 0 < (carriedL dm cap ps).length) :
    ∃ p, p ∈ carriedL dm cap ps ∧ patV dm cap ps P = onV dm p ∧ ∀ q, q ∈ carriedL dm cap ps → priceI P p ≤ priceI P q := by
  obtain ⟨h1, h2, h3, h4⟩ := best_min P (carriedL dm cap ps) _ hp
  have hm : nthN (carriedL dm cap ps) (bestUpto P (carriedL dm cap ps) (carriedL dm cap ps).length).1.toNat ∈ carriedL dm cap ps := nthN_mem (by omega)
  refine ⟨_, hm, ?_, fun q hq => ?_⟩
  · unfold patV patB
    rw [if_neg (by omega)]
  · obtain ⟨j, hj, rfl⟩ := List.getElem_of_mem hq
    rw [← h3, ← nthN_lt hj]
    exact h4 j hj
theorem carried_wider {dm a b : Int} (hab : a ≤ b) {ps : List Nat} : ∀ p ∈ carriedL dm a ps, p ∈ carriedL dm b ps := by
  intro p hp
  unfold carriedL at *
  obtain ⟨h1, h2⟩ := List.mem_filter.1 hp
  refine List.mem_filter.2 ⟨h1, ?_⟩
  simp at h2 ⊢
  omega
theorem ok_wider {st sz rt a b : Int} {S n : Nat} (hab : a ≤ b) (h : OkTo st sz rt a S n) : OkTo st sz rt b S n := fun k hk => ⟨fun hb => by
  have := (h k hk).1 hb
  unfold fitF at *
  omega, (h k hk).2⟩
theorem any_daily {st sz rt hd cap : Int} {P : List Int} {n : Nat} (T : TankOk st rt sz 2 hd) : anyB st sz rt hd cap P n = wayB false sz rt cap st n := by
  have hkey : wayB true sz rt cap st n = true → wayB false sz rt cap st n = true := fun h => (both_nights rt sz st cap n T.rt0 (by have := T.sz1; omega) T.st0 T.st1 h).1
  unfold anyB lateB
  generalize wayB true sz rt cap st n = x at *
  generalize wayB false sz rt cap st n = y at *
  cases x <;> cases y <;> simp at *
theorem way_wider {st sz rt hd a b : Int} {n : Nat} (T : TankOk st rt sz 2 hd) (ha : 0 ≤ a) (hab : a ≤ b) (h : wayB false sz rt a st n = true) : wayB false sz rt b st n = true := by
  have z0 := T.sz0
  have z1 := T.sz1
  unfold wayB at *
  rw [beq_iff_eq, holdsE_zero] at *
  have hok := nightsE_zero h
  rw [wayQ_len] at hok
  have hl := daily_wider sz rt a b st n ha hab T.st0 T.st1 T.rt0 hok
  have hq2 := way_okQ (late := false) (ru := 2) (rt := rt) (cap := b) (st := st) (show 0 ≤ sz by omega) (by omega) n
  rw [nightsE_ok (st := st) (rt := rt) (sz := sz) hq2 (by rw [wayQ_len]; intro j hj; exact (hl j (by omega)).2.2.2 hj)]
theorem found_wider {kd dm rt sz st ru hd a b : Int} {ps : List Nat} {P : List Int} {n : Nat} {V W : List (Int × Int)} {x y : Bool} (hP : PriceOk P) (hn : n ≤ 20) (ha : 0 ≤ a) (hab : a ≤ b) (h : FoundBy kd dm ps rt sz st ru hd a P n V x) (h' : FoundBy kd dm ps rt sz st ru hd b P n W y) (hx : x = true) :
    y = true ∧ (ru ≠ 2 → costV kd st rt sz hd P W n ≤ costV kd st rt sz hd P V n) := by
  subst hx
  rcases h with ⟨h1, rfl, hb⟩ | ⟨h1, h2, T, h⟩ | ⟨h1, h2, T, rfl, hb⟩
  · subst h1
    rcases h' with ⟨_, rfl, rfl⟩ | ⟨h, _⟩ | ⟨h, _⟩
    · have hp : 0 < (carriedL dm a ps).length := by rw [patOk_iff] at hb; simpa using hb.symm
      obtain ⟨p, hp1, hp2, hp3⟩ := pat_least (P := P) dm a ps hp
      have hq0 : 0 < (carriedL dm b ps).length := List.length_pos_of_mem (carried_wider hab p hp1)
      obtain ⟨q, hq1, hq2, hq3⟩ := pat_least (P := P) dm b ps hq0
      refine ⟨by rw [patOk_iff]; simpa using hq0, fun _ => ?_⟩
      rw [hp2, hq2, cost1 st rt sz hd hP, cost1 st rt sz hd hP]
      exact hq3 p (carried_wider hab p hp1)
    · omega
    · omega
  · rcases h with ⟨_, _, h⟩ | ⟨s, S, h3, h4, h5, h6, rfl, _⟩
    · simp at h
    · have hok := ok_wider hab h5
      obtain ⟨z, hz, hle⟩ := stp_le (hd := hd) (cap := b) (P := P) T.st0 n (Nat.le_refl n) S hok (fun h => absurd h (Nat.lt_irrefl n))
      rw [if_neg (Nat.lt_irrefl n)] at hle
      rcases h' with ⟨h, _⟩ | ⟨_, _, _, ⟨h, _⟩ | ⟨s', S', g3, g4, g5, g6, rfl, rfl⟩⟩ | ⟨_, h, _⟩
      · omega
      · rw [h] at hz; simp at hz
      · rw [g3] at hz
        simp only [Option.some.injEq] at hz
        subst hz
        refine ⟨rfl, fun _ => ?_⟩
        subst h1
        rw [costV_fill P T hn g5, costV_fill P T hn h5]
        omega
      · omega
  · subst h2
    rcases h' with ⟨h, _⟩ | ⟨_, h, _⟩ | ⟨_, _, _, rfl, rfl⟩
    · omega
    · omega
    · refine ⟨?_, fun h => absurd rfl h⟩
      rw [any_daily T] at hb ⊢
      exact way_wider T ha hab hb.symm
end Go.Proofs.YtnhcgpkcmfelkaaGreat
