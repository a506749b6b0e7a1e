/-
  My own work: tours, plainly: by prices that may be no tour costs less than the prices of its places.
-/
import Derived.Test.YthilfibgpobcjaaDualPl
namespace Go.Proofs.Ythilfibgpobcjaa
open Go.RowKit
set_option linter.unusedVariables false

/-- The arcs of a tour up to its k-th customer, the way home among them. -/
def wayTo (D : List (List Int)) (c : List Int) : Nat → Int
  | 0 => 0
  | 1 => arcI D 0 (nth c 0 + 1) + arcI D (nth c (c.length - 1) + 1) 0
  | k + 2 => wayTo D c (k + 1) + arcI D (nth c k + 1) (nth c (k + 1) + 1)
def wayI (D : List (List Int)) (c : List Int) : Int := wayTo D c c.length
def sumTo (O I c : List Int) : Nat → Int
  | 0 => nth O 0 + nth I 0
  | k + 1 => sumTo O I c k + nth O (nth c k + 1).toNat + nth I (nth c k + 1).toNat
theorem way_bd {D : List (List Int)} (hD : ArcBd D) (c : List Int) (k : Nat) : 0 ≤ wayTo D c k ∧ wayTo D c k ≤ 60 * (k + 1) := by
  induction k with
  | zero => simp [wayTo]
  | succ k ih =>
    cases k with
    | zero =>
      have h1 := hD 0 (nth c 0 + 1)
      have h2 := hD (nth c (c.length - 1) + 1) 0
      simp only [wayTo]
      omega
    | succ k =>
      have h1 := hD (nth c k + 1) (nth c (k + 1) + 1)
      simp only [wayTo]
      omega
theorem sum_bd' {O I c : List Int} (hO : ∀ k, 0 ≤ nth O k ∧ nth O k ≤ 60) (hI : ∀ k, 0 ≤ nth I k ∧ nth I k ≤ 60) (k : Nat) : 0 ≤ sumTo O I c k ∧ sumTo O I c k ≤ 120 * (k + 1) := by
  induction k with
  | zero => have := hO 0; have := hI 0; simp only [sumTo]; omega
  | succ k ih =>
    have h1 := hO (nth c k + 1).toNat
    have h2 := hI (nth c k + 1).toNat
    simp only [sumTo]
    omega
/-- Customers that are there, no two of them next to each other the same. -/
structure TourOk (n : Nat) (c : List Int) : Prop where
  pos : 0 < c.length
  range : ∀ k, k < c.length → 0 ≤ nth c k ∧ nth c k + 1 < n
  apart : ∀ k, k + 1 < c.length → nth c k ≠ nth c (k + 1)
theorem tour_le {D : List (List Int)} {n : Nat} {O I c : List Int} (hm : mayP D n O I) (hn : 0 < n) (hc : TourOk n c) : sumTo O I c c.length ≤ wayI D c := by
  have key : ∀ k, k + 1 ≤ c.length → sumTo O I c (k + 1) - nth O (nth c k + 1).toNat - nth I 0 ≤ wayTo D c (k + 1) - arcI D (nth c (c.length - 1) + 1) 0 := by
    intro k hk
    induction k with
    | zero =>
      have h0 := hc.range 0 (by omega)
      have := hm.2.2.2 0 hn (nth c 0 + 1).toNat (by omega) (by omega)
      rw [show (((nth c 0 + 1).toNat : Nat) : Int) = nth c 0 + 1 by omega] at this
      simp only [sumTo, wayTo]
      simp at this ⊢
      omega
    | succ k ih =>
      have h1 := ih (by omega)
      have r0 := hc.range k (by omega)
      have r1 := hc.range (k + 1) (by omega)
      have hne := hc.apart k (by omega)
      have := hm.2.2.2 (nth c k + 1).toNat (by omega) (nth c (k + 1) + 1).toNat (by omega) (by omega)
      rw [show (((nth c k + 1).toNat : Nat) : Int) = nth c k + 1 by omega, show (((nth c (k + 1) + 1).toNat : Nat) : Int) = nth c (k + 1) + 1 by omega] at this
      have e1 : sumTo O I c (k + 1 + 1) = sumTo O I c (k + 1) + nth O (nth c (k + 1) + 1).toNat + nth I (nth c (k + 1) + 1).toNat := rfl
      have e2 : wayTo D c (k + 1 + 1) = wayTo D c (k + 1) + arcI D (nth c k + 1) (nth c (k + 1) + 1) := rfl
      rw [e1, e2]
      omega
  have hp := hc.pos
  obtain ⟨m, hm'⟩ : ∃ m, c.length = m + 1 := ⟨c.length - 1, by omega⟩
  have h1 := key m (by omega)
  have r := hc.range m (by omega)
  have h2 := hm.2.2.2 (nth c m + 1).toNat (by omega) 0 hn (by omega)
  rw [show (((nth c m + 1).toNat : Nat) : Int) = nth c m + 1 by omega] at h2
  unfold wayI
  rw [hm'] at h1 ⊢
  rw [show m + 1 - 1 = m by omega] at h1
  simp at h2
  omega
end Go.Proofs.Ythilfibgpobcjaa
