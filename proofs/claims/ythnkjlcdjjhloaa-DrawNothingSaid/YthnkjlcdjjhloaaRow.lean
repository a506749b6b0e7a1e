/-
  My own work: draw.shuffle and Row.
-/
import Derived.Test.YthnkjlcdjjhloaaDraw
import Derived.Test.YthnkjlcdjjhloaaBrings
import Derived.RegionTactic
import Derived.ChangeAlike
namespace Go.Proofs.Ythnkjlcdjjhloaa
open Go.RowKit
set_option linter.unusedVariables false

/-- Each number below n once. -/
structure IsRowOf (n : Nat) (xs : List Int) : Prop where
  len : xs.length = n
  bd : ∀ k, k < n → 0 ≤ nth xs k ∧ nth xs k < n
  inj : ∀ a b, a < n → b < n → nth xs a = nth xs b → a = b

def swapL (xs : List Int) (i j : Nat) : List Int := (xs.set i (nth xs j)).set j (nth xs i)
theorem nth_swapL (xs : List Int) (i j k : Nat) (hi : i < xs.length) (hj : j < xs.length) : nth (swapL xs i j) k = nth xs (if k = j then i else if k = i then j else k) := by
  unfold swapL
  rw [nth_set (by simpa using hj), nth_set hi]
  by_cases h1 : j = k
  · subst h1; simp
  · rw [if_neg h1, if_neg (show ¬ k = j from fun e => h1 e.symm)]
    by_cases h2 : i = k
    · subst h2; simp
    · rw [if_neg h2, if_neg (show ¬ k = i from fun e => h2 e.symm)]
theorem IsRowOf.swap {n : Nat} {xs : List Int} (h : IsRowOf n xs) {i j : Nat} (hi : i < n) (hj : j < n) : IsRowOf n (swapL xs i j) := by
  have hl := h.len
  have e : ∀ k, nth (swapL xs i j) k = nth xs (if k = j then i else if k = i then j else k) := fun k => nth_swapL xs i j k (by omega) (by omega)
  refine ⟨by simp [swapL, hl], fun k hk => ?_, fun a b ha hb hab => ?_⟩
  · rw [e k]
    apply h.bd
    split <;> (try split) <;> omega
  · rw [e a, e b] at hab
    have := h.inj _ _ (by split <;> (try split) <;> omega) (by split <;> (try split) <;> omega) hab
    split at this <;> split at this <;> (try split at this) <;> (try split at this) <;> omega

theorem wordOf_mod (s : Int) (i : Nat) : ∃ j : Nat, wordOf s % ((i : Int) + 1) = (j : Int) ∧ j ≤ i := by
  have h1 := Int.emod_nonneg (wordOf s) (b := (i : Int) + 1) (by omega)
  have h2 := Int.emod_lt_of_pos (wordOf s) (b := (i : Int) + 1) (by omega)
  obtain ⟨j, hj⟩ := Int.eq_ofNat_of_zero_le h1
  exact ⟨j, hj, by omega⟩

theorem grownBy_store {w0 w : World} {r : Option Nat} (h : w0.grownBy w r) {p : Addr} (hp : w0.heap.size ≤ p.block) (v : Value) : w0.grownBy (w.setCell p v) r :=
  ⟨h.os, h.tape, h.output, by simpa [World.setCell] using h.size, fun k hk hn => (Below.heap_setCell _ _ _ _ (by omega)).trans (h.block k hk hn)⟩

theorem IsStream.set {w : World} {g : Nat} {s : Int} (h : IsStream w g s) {p : Addr} (hp : p.block ≠ g) (v : Value) : IsStream (w.setCell p v) g s :=
  h.kept (k := p.block) (grownBy_setCell w p v) (fun e => hp e.symm)
theorem IsStream.drew {w : World} {g : Nat} {s : Int} (h : IsStream w g s) : IsStream w.drew g s := ⟨h.1, h.2⟩
theorem grownBy_drew {w0 w : World} {r : Option Nat} (h : w0.grownBy w r) : w0.grownBy w.drew r := ⟨h.os, h.tape, h.output, h.size, h.block⟩

set_option maxHeartbeats 1600000 in
theorem shuffle_is (g gl B n c : Nat) (s : Int) (xs : List Int) (w0 w : World) (hs : IsStream w g s) (hown : Own w B (.slice (some ⟨gl, 0, none⟩) n c) xs) (hrow : IsRowOf n xs) (hne : gl ≠ g)
    (hg : w0.grownBy w (some g)) (hgl : w0.heap.size ≤ gl) (hn : n ≤ 10000) :
    Calls Try.prog 35 #[.slice (some ⟨gl, 0, none⟩) n c, .func (.func 23) #[.pointer (some ⟨g, 0, none⟩)] #[]] w fun e w' =>
      e = .returned (.tuple #[]) ∧ ∃ s' ys, IsStream w' g s' ∧ Own w' B (.slice (some ⟨gl, 0, none⟩) n c) ys ∧ IsRowOf n ys ∧ w0.grownBy w' (some g) := by
  go_enter Try.func35, Try.ntmps35
  go_wp2_with fail
  go_loopw [4] (fun i wr => ∃ (k : Nat) (s : Int) (ys : List Int), k ≤ n ∧ i = .int .i64 ((k : Int) - 1) ∧ IsStream wr g s ∧ Own wr B (.slice (some ⟨gl, 0, none⟩) n c) ys ∧ IsRowOf n ys ∧ w0.grownBy wr (some g)) (fun i _ => (intOf i + 1).toNat)
  case atStart => exact ⟨n, s, xs, Nat.le_refl _, rfl, hs, hown, hrow, hg⟩
  case round =>
    clear hs hown hrow hg
    obtain ⟨k, s, ys, hk, rfl, hs, hown, hrow, hg⟩ := hrel
    by_cases hlt : 2 ≤ k
    · obtain ⟨i, rfl⟩ : ∃ i, k = i + 1 := ⟨k - 1, by omega⟩
      rw [show ((i + 1 : Nat) : Int) - 1 = (i : Int) by omega]
      have hi1 : 1 ≤ (i : Int) := by omega
      have hi2 : i ≤ 10000 := by omega
      have hcall := below_is g s ((i : Int) + 1) wr hs (by omega) (by show _ ≤ _; omega)
      obtain ⟨j, hj, hji⟩ := wordOf_mod s i
      rw [hj] at hcall
      have Hcall := Lib.hid hcall
      clear hcall hj
      have Hrow := Lib.hid hrow
      have Hown := Lib.hid hown
      have hlen := hrow.len
      clear hrow hown
      go_wp2_with fail
      refine Hcall.out.mono ?_
      rintro e w1 ⟨rfl, hs1, hg1⟩
      have hown1 := Hown.out.kept hg1 (.inr (by simpa [Value.ownBlock] using hne))
      have hgr1 := grownBy_trans hg hg1
      obtain ⟨g', c', hv', _, hgl1, _, hcell⟩ := hown1.out (by omega)
      simp only [Value.slice.injEq, Option.some.injEq, Addr.mk.injEq, and_true] at hv'
      obtain ⟨rfl, hx1, hx2⟩ := hv'
      clear hx1 hx2
      obtain ⟨f0, f1⟩ := hcell i (by omega)
      obtain ⟨f2, f3⟩ := hcell j (by omega)
      rw [Nat.zero_add] at f0 f1 f2 f3
      have hii : (i : Int) < (n : Int) := by omega
      have hjj : (j : Int) < (n : Int) := by omega
      have hj0 : (0 : Int) ≤ (j : Int) := by omega
      have hi0 : (0 : Int) ≤ (i : Int) := by omega
      have hset := hown1.set i (nth ys j) (by omega)
      rw [Nat.zero_add] at hset
      have hset2 := hset.set j (nth ys i) (by simp; omega)
      rw [Nat.zero_add] at hset2
      obtain ⟨g', c', hv', _, _, _, hcell2⟩ := hset.out (by simp; omega)
      simp only [Value.slice.injEq, Option.some.injEq, Addr.mk.injEq, and_true] at hv'
      obtain ⟨rfl, hx1, hx2⟩ := hv'
      clear hx1 hx2
      obtain ⟨f4, f5⟩ := hcell2 j (by simp; omega)
      rw [Nat.zero_add] at f4 f5
      have Hset2 := Lib.hid hset2
      clear hcell hown1 hset hset2 hcell2
      go_wp2_with fail
      go_region
      go_wp2_with fail
      go_roundw
      case rel =>
        exact ⟨i, stOf s, _, by omega, by go_num, ((hs1.set (p := ⟨gl, i, none⟩) hne _).set (p := ⟨gl, j, none⟩) hne _).drew, Hset2.out, Hrow.out.swap (by omega) (by omega), grownBy_drew (grownBy_store (p := ⟨gl, j, none⟩) (grownBy_store (p := ⟨gl, i, none⟩) hgr1 hgl _) hgl _)⟩
      case measure => simp [intOf]
    · go_wp2_with fail
      go_end0
      exact ⟨rfl, s, ys, hs, hown, hrow, hg⟩

theorem rowOf_range (n : Nat) : IsRowOf n ((List.range n).map (fun k : Nat => (k : Int))) := by
  have e : ∀ k, k < n → nth ((List.range n).map (fun k : Nat => (k : Int))) k = k := fun k hk => nth_map_range _ n k hk
  refine ⟨by simp, fun k hk => by rw [e k hk]; omega, fun a b ha hb h => by rw [e a ha, e b hb] at h; omega⟩

set_option maxHeartbeats 1600000 in
theorem row_is (g : Nat) (s m : Int) (w : World) (hs : IsStream w g s) :
    Calls Try.prog 24 #[.pointer (some ⟨g, 0, none⟩), .int .i64 m] w fun e w' =>
      ∃ v s' xs, e = .returned v ∧ IsStream w' g s' ∧ Own w' w.heap.size v xs ∧ IsRowOf (clipI m 0 10000).toNat xs ∧ w.grownBy w' (some g) := by
  obtain ⟨N, hN⟩ : ∃ N : Nat, clipI m 0 10000 = (N : Int) := ⟨(clipI m 0 10000).toNat, by unfold clipI; omega⟩
  have hN64 : N ≤ 10000 := by unfold clipI at hN; omega
  have HN := Lib.hid hN
  clear hN
  obtain ⟨ii, hi, hz, hsi, hby⟩ := info_parts info_int
  have hg := hs.lt
  go_enter Try.func24, Try.ntmps24
  go_wp2_with fail
  refine (clip_is m 0 10000 w).mono ?_
  rintro e w' ⟨rfl, rfl⟩
  rw [HN.out]
  go_wp2_with (at_make; refine wpList_make_full _ rfl _ _ 32 rfl w.heap.size 3 ii (.int .i64 0) 1 Try.underlying32 hi hz hsi _ _ _ _ N rfl rfl rfl rfl (by rw [hby]; omega) (by simp only [maxLen]; omega) (Nat.le_refl _) ?_)
  intro w3 hown0 hg3
  have hown := own_made w3 _ _ _ hown0
  have hs3 : IsStream w3 g s := ⟨(World.cell?_of_block (a := ⟨g, 0, none⟩) (hg3.block g hg (by simp))).trans hs.1, (World.frozen?_of_block (a := ⟨g, 0, none⟩) (hg3.block g hg (by simp))).trans hs.2⟩
  have hg3' : w.grownBy w3 (some g) := ⟨hg3.os, hg3.tape, hg3.output, hg3.size, fun k hk _ => hg3.block k hk (by simp)⟩
  clear hown0 hg3 hi hz hsi hby hs
  go_wp2_with fail
  go_loopw [12] (fun i wr => ∃ (k : Nat) (ys : List Int), k ≤ N ∧ i = .int .i64 k ∧ Own wr w.heap.size (.slice (some ⟨w.heap.size, 0, none⟩) N N) ys ∧ ys.length = N ∧ (∀ j, j < k → nth ys j = j) ∧ IsStream wr g s ∧ w.grownBy wr (some g)) (fun i _ => N - (intOf i).toNat)
  case atStart => exact ⟨0, _, Nat.zero_le _, rfl, hown, by simp, fun j hj => by omega, hs3, hg3'⟩
  case round =>
    clear hown hs3 hg3'
    obtain ⟨k, ys, hk, rfl, hown, hl, hall, hs, hgr⟩ := hrel
    have Hall := Lib.hid hall
    have Hl := Lib.hid hl
    clear hall
    by_cases hlt : k < N
    · obtain ⟨g', c', hv', _, hgl1, _, hcell⟩ := hown.out (by omega)
      simp only [Value.slice.injEq, Option.some.injEq, Addr.mk.injEq, and_true] at hv'
      obtain ⟨rfl, hx1, hx2⟩ := hv'
      clear hx1 hx2
      obtain ⟨f0, f1⟩ := hcell k (by omega)
      have hset := hown.set k k (by omega)
      rw [Nat.zero_add] at f0 f1 hset
      have Hset := Lib.hid hset
      clear hcell hset hown hl
      go_wp2_with fail
      go_roundw
      case rel =>
        refine ⟨k + 1, _, by omega, by go_num, Hset.out, by rw [List.length_set]; exact Hl.out, fun j hj => ?_, hs.kept (grownBy_setCell _ _ _) (by show g ≠ w.heap.size; omega), grownBy_store hgr (Nat.le_refl _) _⟩
        rw [nth_set (by rw [Hl.out]; exact hlt)]
        by_cases e : k = j
        · subst e; simp
        · rw [if_neg e]; exact Hall.out j (by omega)
      case measure => simp [intOf]; omega
    · have hys : IsRowOf N ys := by
        have : ys = (List.range N).map (fun k : Nat => (k : Int)) := by
          apply ext_nth
          · rw [Hl.out]; simp
          · intro j hj
            rw [Hl.out] at hj
            rw [nth_map_range _ N j hj]
            exact Hall.out j (by omega)
        rw [this]
        exact rowOf_range N
      have Hys := Lib.hid hys
      clear hys hl
      go_wp2_with fail
      refine (shuffle_is g w.heap.size w.heap.size N N s ys w wr hs hown Hys.out (by omega) hgr (Nat.le_refl _) hN64).mono ?_
      rintro e w5 ⟨rfl, s', zs, hs5, hown5, hrow5, hg5⟩
      go_wp2_with fail
      go_ret
      rw [HN.out, Int.toNat_natCast]
      exact ⟨_, s', zs, rfl, hs5, hown5, hrow5, hg5⟩
end Go.Proofs.Ythnkjlcdjjhloaa
