/-
  My own work: slices of elements of two ints (stops, visits); slices of such slices (tours).
  My own work: tours, plainly: by prices that may be no tour costs less than the prices of its places.
  My own work: tranterref12.Good, Customers; tranterref06.Way: their contracts.
  My own work: tranterref12.Customers, tranterref06.Way: their contracts.
  My own work: a slice of tours of the call's own (each a slice of stops of its own, in a block of its own).
-/
import Derived.Test.YtnhcgpkcmfelkaaGreatMOwn
import Derived.Test.YtnhcgpkcmfelkaaGreatMDual
namespace Go.Proofs.YtnhcgpkcmfelkaaGreat
section
open Go.RowKit
set_option linter.unusedVariables false
set_option maxRecDepth 100000

def nthP (xs : List (Int × Int)) (k : Nat) : Int × Int := xs.getD k (0, 0)
theorem nthP_lt {xs : List (Int × Int)} {k : Nat} (h : k < xs.length) : nthP xs k = xs[k] := by simp [nthP, h]
theorem nthP_mem {xs : List (Int × Int)} {k : Nat} (h : k < xs.length) : nthP xs k ∈ xs := by rw [nthP_lt h]; exact List.getElem_mem h
theorem nthP_append_left {xs ys : List (Int × Int)} {k : Nat} (h : k < xs.length) : nthP (xs ++ ys) k = nthP xs k := by simp [nthP, List.getElem?_append, h]
theorem nthP_append_here {xs : List (Int × Int)} {y : Int × Int} : nthP (xs ++ [y]) xs.length = y := by simp [nthP]
theorem takeP_succ (xs : List (Int × Int)) (k : Nat) (h : k < xs.length) : xs.take (k + 1) = xs.take k ++ [nthP xs k] := by rw [nthP_lt h, List.take_succ_eq_append_getElem h]

/-- The slice value v reads as the pairs xs. -/
def Pairs (w : World) (v : Value) (xs : List (Int × Int)) : Prop :=
  ∃ (a : Option Addr) (c : Nat), v = .slice a xs.length c ∧ xs.length ≤ c ∧ c ≤ 9223372036854775807 ∧ ∀ i, i < xs.length → ∃ b o, a = some ⟨b, o, none⟩ ∧ w.cell? ⟨b, o + i * 2, none⟩ = some (.int .i64 (nthP xs i).1) ∧ w.cell? ⟨b, o + i * 2 + 1, none⟩ = some (.int .i64 (nthP xs i).2)
theorem Pairs.nil (w : World) : Pairs w (.slice none 0 0) [] := ⟨none, 0, rfl, by simp, by simp, fun i hi => absurd hi (by simp)⟩
theorem Pairs.below {w w' : World} {v : Value} {xs : List (Int × Int)} (h : Pairs w v xs) (hb : Below w.heap.size w w') : Pairs w' v xs := by
  obtain ⟨a, c, hv, h1, h2, hc⟩ := h
  refine ⟨a, c, hv, h1, h2, fun i hi => ?_⟩
  obtain ⟨b, o, ha, g0, g1⟩ := hc i hi
  exact ⟨b, o, ha, cell_below hb g0, cell_below hb g1⟩
theorem Pairs.open {w : World} {v : Value} {xs : List (Int × Int)} (h : Pairs w v xs) :
    ∃ (a : Option Addr) (n c : Nat), v = .slice a n c ∧ xs.length = n ∧ n ≤ 9223372036854775807 ∧ ∀ i, i < n → ∃ b o, a = some ⟨b, o, none⟩ ∧ w.cell? ⟨b, o + i * 2, none⟩ = some (.int .i64 (nthP xs i).1) ∧ w.cell? ⟨b, o + i * 2 + 1, none⟩ = some (.int .i64 (nthP xs i).2) := by
  obtain ⟨a, c, rfl, h1, h2, hc⟩ := h
  exact ⟨a, xs.length, c, rfl, rfl, by omega, hc⟩

/-- The flat row. -/
def flatP (xs : List (Int × Int)) : List Value := xs.flatMap fun p => [.int .i64 p.1, .int .i64 p.2]
theorem flatP_snoc (xs : List (Int × Int)) (p : Int × Int) : flatP (xs ++ [p]) = flatP xs ++ [.int .i64 p.1, .int .i64 p.2] := by simp [flatP]
theorem flatP_len (xs : List (Int × Int)) : (flatP xs).length = 2 * xs.length := by
  induction xs with
  | nil => rfl
  | cons x xs ih => simp [flatP] at *; omega
theorem flatP_at (xs : List (Int × Int)) (i : Nat) (hi : i < xs.length) : (flatP xs)[i * 2]? = some (.int .i64 (nthP xs i).1) ∧ (flatP xs)[i * 2 + 1]? = some (.int .i64 (nthP xs i).2) := by
  induction xs generalizing i with
  | nil => simp at hi
  | cons x xs ih =>
    match i with
    | 0 => simp [flatP, nthP]
    | i + 1 =>
      have hi' : i < xs.length := by simpa using hi
      have h := ih i hi'
      have e : flatP (x :: xs) = .int .i64 x.1 :: .int .i64 x.2 :: flatP xs := rfl
      rw [e, show (i + 1) * 2 = i * 2 + 1 + 1 by omega, show i * 2 + 1 + 1 + 1 = (i * 2 + 1) + 1 + 1 by omega]
      simp only [List.getElem?_cons_succ]
      have e2 : nthP (x :: xs) (i + 1) = nthP xs i := by simp [nthP]
      rw [e2]
      exact h
/-- A slice of pairs of the call's own. -/
def OwnP2 (E : TypeId) (w : World) (B : Nat) (v : Value) (xs : List (Int × Int)) : Prop := w.ownsRow B E 2 v xs.length (flatP xs)
theorem OwnP2.nil (E : TypeId) (w : World) (B : Nat) : OwnP2 E w B (.slice none 0 0) [] := World.ownsRow_nil _ _ _ _
theorem OwnP2.pairs {E : TypeId} {w : World} {B : Nat} {v : Value} {xs : List (Int × Int)} (h : OwnP2 E w B v xs) : Pairs w v xs := by
  rcases owns_form h with ⟨rfl, h0⟩ | ⟨g, cap, rfl, h1, h2, _, _⟩
  · rw [List.length_eq_zero_iff.1 h0]; exact Pairs.nil w
  · refine ⟨some ⟨g, 0, none⟩, cap, rfl, h1, h2, fun i hi => ⟨g, 0, rfl, ?_, ?_⟩⟩
    · obtain ⟨g', hg', hc⟩ := owns_cell h (i * 2) _ (flatP_at xs i hi).1
      simp only [Value.ownBlock, Option.some.injEq] at hg'
      subst hg'
      rw [Nat.zero_add]; exact hc
    · obtain ⟨g', hg', hc⟩ := owns_cell h (i * 2 + 1) _ (flatP_at xs i hi).2
      simp only [Value.ownBlock, Option.some.injEq] at hg'
      subst hg'
      rw [Nat.zero_add]; exact hc
theorem OwnP2.lt {E : TypeId} {w : World} {B : Nat} {v : Value} {xs : List (Int × Int)} (h : OwnP2 E w B v xs) : ∀ k, v.ownBlock = some k → B ≤ k ∧ k < w.heap.size := World.ownsRow.lt h
theorem OwnP2.kept {E : TypeId} {w w' : World} {B : Nat} {v : Value} {xs : List (Int × Int)} {r : Option Nat} (h : OwnP2 E w B v xs) (hg : w.grownBy w' r) (hne : v.ownBlock = none ∨ v.ownBlock ≠ r) : OwnP2 E w' B v xs := World.ownsRow.kept h hg hne
theorem OwnP2.below {E : TypeId} {w w' : World} {B : Nat} {v : Value} {xs : List (Int × Int)} (h : OwnP2 E w B v xs) (hb : Below w.heap.size w w') : OwnP2 E w' B v xs :=
  World.ownsRow.kept (row := none) h (grownBy_below hb) (by cases v.ownBlock <;> simp)
theorem OwnP2.mono {E : TypeId} {w : World} {B B' : Nat} {v : Value} {xs : List (Int × Int)} (h : OwnP2 E w B v xs) (hB : B' ≤ B) : OwnP2 E w B' v xs := owns_mono h hB
theorem OwnP2.not {E : TypeId} {w : World} {B g : Nat} {v : Value} {xs : List (Int × Int)} (h : OwnP2 E w B v xs) (hg : g < B) : v.ownBlock = none ∨ v.ownBlock ≠ some g := by
  cases hv : v.ownBlock with
  | none => exact .inl rfl
  | some k => exact .inr (by have := h.lt k hv; simp; omega)

/-- 'v = append(v, pair)'. -/
theorem wpList_pushP {ops : Array Oper} {rest : List Oper} {o : Oper} {a : Act} {Q : Exit → Act → World → Prop} (hgd : o.guard = none) (s x : Operand) (T E : TypeId) (z : Value) (hT : Tryz.prog.underlying T = some (.slice E))
    (hinfo : (Tryz.prog.info? E).map (fun i => (i.zero, i.size, i.bytes)) = some (some z, 2, 16)) (hz : z.cells.size = 2)
    (ho : o.op = .call { callee := .builtin .append, args := #[s, x], argTypes := #[T, T] }) (w : World) (B : Nat) (v : Value) (xs : List (Int × Int)) (p q : Int) (hs : a.eval s = v)
    (hx : a.eval x = .slice (some ⟨w.heap.size, 0, none⟩) 1 1) (hown : OwnP2 E w B v xs) (hlen : xs.length + 1 ≤ 1000000000000) (hB : B ≤ w.heap.size)
    (h : ∀ g c w', OwnP2 E w' B (.slice (some ⟨g, 0, none⟩) (xs.length + 1) c) (xs ++ [(p, q)]) → w.grownBy w' v.ownBlock → Below B w w' → B ≤ g → g < w'.heap.size → wpList Tryz.prog ops Q rest (a.put o.dst (.slice (some ⟨g, 0, none⟩) (xs.length + 1) c)) w') :
    wpList Tryz.prog ops Q (o :: rest) a (w.alloc (.cells #[.int .i64 p, .int .i64 q] E)) := by
  have hown' : (w.alloc (.cells #[.int .i64 p, .int .i64 q] E)).ownsRow B E 2 v xs.length (flatP xs) := World.ownsRow.alloc hown _
  refine wpList_pushN hgd s x T E z 2 16 hT hinfo hz (by decide) (by decide) ho _ B v xs.length (flatP xs) [.int .i64 p, .int .i64 q] w.heap.size hs hx (Lies.new w [.int .i64 p, .int .i64 q] _) rfl
    (by intro u hu; simp at hu; rcases hu with rfl | rfl <;> rfl) hown' hlen (by simp; omega) ?_
  intro g cap w' h1 h2 h3 h4 h5 h6
  have hg' : w.grownBy w' v.ownBlock := grownBy_trans (World.grownBy_alloc w _ _) h2
  refine h g cap w' (by simpa [OwnP2, flatP_snoc] using h1) hg' ((Below.refl B w).grown hg' hB (fun k hk => (hown.lt k hk).1)) h5 h6
end

section
open Go.RowKit
set_option linter.unusedVariables false
set_option maxRecDepth 100000

/-- The arcs of a tour up to its k-th customer, the way home among them. -/
def wayTo (D : List (List Int)) (c : List Int) : Nat → Int
  | 0 => 0
  | 1 => arcI D 0 (nth c 0 + 1) + arcI D (nth c (c.length - 1) + 1) 0
  | k + 2 => wayTo D c (k + 1) + arcI D (nth c k + 1) (nth c (k + 1) + 1)
def wayI (D : List (List Int)) (c : List Int) : Int := wayTo D c c.length
def sumTo (O I c : List Int) : Nat → Int
  | 0 => nth O 0 + nth I 0
  | k + 1 => sumTo O I c k + nth O (nth c k + 1).toNat + nth I (nth c k + 1).toNat
theorem way_bd {D : List (List Int)} (hD : ArcBd D) (c : List Int) (k : Nat) : 0 ≤ wayTo D c k ∧ wayTo D c k ≤ 60 * (k + 1) := by
  induction k with
  | zero => simp [wayTo]
  | succ k ih =>
    cases k with
    | zero =>
      have h1 := hD 0 (nth c 0 + 1)
      have h2 := hD (nth c (c.length - 1) + 1) 0
      simp only [wayTo]
      omega
    | succ k =>
      have h1 := hD (nth c k + 1) (nth c (k + 1) + 1)
      simp only [wayTo]
      omega
theorem sum_bd' {O I c : List Int} (hO : ∀ k, 0 ≤ nth O k ∧ nth O k ≤ 60) (hI : ∀ k, 0 ≤ nth I k ∧ nth I k ≤ 60) (k : Nat) : 0 ≤ sumTo O I c k ∧ sumTo O I c k ≤ 120 * (k + 1) := by
  induction k with
  | zero => have := hO 0; have := hI 0; simp only [sumTo]; omega
  | succ k ih =>
    have h1 := hO (nth c k + 1).toNat
    have h2 := hI (nth c k + 1).toNat
    simp only [sumTo]
    omega
/-- Customers that are there, no two of them next to each other the same. -/
structure TourOk (n : Nat) (c : List Int) : Prop where
  pos : 0 < c.length
  range : ∀ k, k < c.length → 0 ≤ nth c k ∧ nth c k + 1 < n
  apart : ∀ k, k + 1 < c.length → nth c k ≠ nth c (k + 1)
theorem tour_le {D : List (List Int)} {n : Nat} {O I c : List Int} (hm : mayP D n O I) (hn : 0 < n) (hc : TourOk n c) : sumTo O I c c.length ≤ wayI D c := by
  have key : ∀ k, k + 1 ≤ c.length → sumTo O I c (k + 1) - nth O (nth c k + 1).toNat - nth I 0 ≤ wayTo D c (k + 1) - arcI D (nth c (c.length - 1) + 1) 0 := by
    intro k hk
    induction k with
    | zero =>
      have h0 := hc.range 0 (by omega)
      have := hm.2.2.2 0 hn (nth c 0 + 1).toNat (by omega) (by omega)
      rw [show (((nth c 0 + 1).toNat : Nat) : Int) = nth c 0 + 1 by omega] at this
      simp only [sumTo, wayTo]
      simp at this ⊢
      omega
    | succ k ih =>
      have h1 := ih (by omega)
      have r0 := hc.range k (by omega)
      have r1 := hc.range (k + 1) (by omega)
      have hne := hc.apart k (by omega)
      have := hm.2.2.2 (nth c k + 1).toNat (by omega) (nth c (k + 1) + 1).toNat (by omega) (by omega)
      rw [show (((nth c k + 1).toNat : Nat) : Int) = nth c k + 1 by omega, show (((nth c (k + 1) + 1).toNat : Nat) : Int) = nth c (k + 1) + 1 by omega] at this
      have e1 : sumTo O I c (k + 1 + 1) = sumTo O I c (k + 1) + nth O (nth c (k + 1) + 1).toNat + nth I (nth c (k + 1) + 1).toNat := rfl
      have e2 : wayTo D c (k + 1 + 1) = wayTo D c (k + 1) + arcI D (nth c k + 1) (nth c (k + 1) + 1) := rfl
      rw [e1, e2]
      omega
  have hp := hc.pos
  obtain ⟨m, hm'⟩ : ∃ m, c.length = m + 1 := ⟨c.length - 1, by omega⟩
  have h1 := key m (by omega)
  have r := hc.range m (by omega)
  have h2 := hm.2.2.2 (nth c m + 1).toNat (by omega) 0 hn (by omega)
  rw [show (((nth c m + 1).toNat : Nat) : Int) = nth c m + 1 by omega] at h2
  unfold wayI
  rw [hm'] at h1 ⊢
  rw [show m + 1 - 1 = m by omega] at h1
  simp at h2
  omega
end

section
open Go.RowKit
set_option linter.unusedVariables false
set_option maxRecDepth 100000
attribute [local go_sem ↓] Go.wp_at_zero Go.wp_at_succ

theorem info_stop : (Tryz.prog.info? 78).map (fun i => (i.zero, i.size, i.bytes)) = some (some (.agg #[.int .i64 0, .int .i64 0]), 2, 16) := by kernel_rfl

/-- Stops of customers that are there, each once. -/
structure GoodStops (cm : Nat) (G : List (Int × Int)) : Prop where
  six : G.length ≤ 6
  range : ∀ p ∈ G, 0 ≤ p.1 ∧ p.1 < cm
  once : (G.map (·.1)).Nodup
def hadB (G : List (Int × Int)) (C : Int) (j : Nat) : Bool := (G.take j).any fun p => p.1 == C
theorem had_succ (G : List (Int × Int)) (C : Int) (j : Nat) (h : j < G.length) : hadB G C (j + 1) = (hadB G C j || ((nthP G j).1 == C)) := by
  unfold hadB
  rw [takeP_succ G j h, List.any_append]
  simp
theorem good_push {cm : Nat} {G : List (Int × Int)} {C q : Int} (h : GoodStops cm G) (h5 : G.length < 6) (h0 : 0 ≤ C) (h1 : C < cm) (hn : hadB G C G.length = false) : GoodStops cm (G ++ [(C, q)]) := by
  refine ⟨by simp; omega, fun p hp => ?_, ?_⟩
  · rcases List.mem_append.1 hp with hp | hp
    · exact h.range p hp
    · simp at hp; subst hp; exact ⟨h0, h1⟩
  · rw [List.map_append, List.nodup_append]
    refine ⟨h.once, by simp, fun x hx y hy => ?_⟩
    simp at hy
    subst hy
    intro e
    subst e
    obtain ⟨p, hp, rfl⟩ := List.mem_map.1 hx
    unfold hadB at hn
    rw [List.take_of_length_le (Nat.le_refl _), List.any_eq_false] at hn
    have := hn p hp
    simp at this

def StopsOut (cm : Nat) (w : World) (e : Ending) (w' : World) : Prop := ∃ v G, e = .returned v ∧ OwnP2 78 w' w.heap.size v G ∧ GoodStops cm G ∧ Below w.heap.size w w'
end

section
open Go.RowKit
set_option linter.unusedVariables false
set_option maxRecDepth 100000
attribute [local go_sem ↓] Go.wp_at_zero Go.wp_at_succ

theorem fst_take (xs : List (Int × Int)) (k : Nat) (h : k < xs.length) : (xs.map (·.1)).take (k + 1) = (xs.map (·.1)).take k ++ [(nthP xs k).1] := by
  rw [← List.map_take, ← List.map_take, takeP_succ xs k h, List.map_append]; rfl

set_option maxRecDepth 100000 in
set_option maxHeartbeats 1600000 in
theorem custsOf_is (sv : Value) (xs : List (Int × Int)) (w : World) (h : Pairs w sv xs) (hx : xs.length ≤ 1000000) :
    Calls Tryz.prog 68 #[.agg #[sv]] w fun e w' => ∃ v, e = .returned v ∧ Own w' w.heap.size v (xs.map (·.1)) ∧ Below w.heap.size w w' := by
  obtain ⟨w1, ew, hb1, hs1, c0⟩ : ∃ w1, w.alloc (.cells #[sv] 102) = w1 ∧ Below w.heap.size w w1 ∧ w1.heap.size = w.heap.size + 1 ∧ w1.cell? ⟨w.heap.size, 0, none⟩ = some sv := ⟨_, rfl, belAlloc _ _, by simp, by simp [go_sem]⟩
  obtain ⟨a, n, c, rfl, hn, _, hc⟩ := (h.below hb1).open
  have Hew := Lib.hid ew
  have Hn := Lib.hid hn
  have Hc := Lib.hid hc
  have hn2 : n ≤ 1000000 := by omega
  have hsz : w.heap.size ≤ w1.heap.size := hb1.size
  clear ew hs1 h hn hc hx
  go_enter Tryz.func68, Tryz.ntmps68
  go_upto_region 1 with (fail)
  rw [Hew.out]
  go_wp2_with fail
  go_loopw [3, 4] (fun v i wr => ∃ (k : Nat) (x : Value), i = .int .i64 k ∧ x = v ∧ k ≤ n ∧ Own wr w1.heap.size x ((xs.map (·.1)).take k) ∧ Below w1.heap.size w1 wr) (fun _ i _ => n - (intOf i).toNat)
  case atStart => exact ⟨0, _, rfl, rfl, Nat.zero_le _, Own.nil _ _, Below.refl _ _⟩
  case round =>
    obtain ⟨k, x, rfl, rfl, hk, hown, hb⟩ := hrel
    have Hown := Lib.hid hown
    have c0r := cell_below hb c0
    have hszr : w1.heap.size ≤ wr.heap.size := hb.size
    clear hown
    by_cases hlt : k < n
    · obtain ⟨b, o, rfl, f0, _⟩ := Hc.out k hlt
      have f0r := cell_below hb f0
      have Hst := Lib.hid (fst_take xs k (by rw [Hn.out]; exact hlt))
      have hlen : Hid (((xs.map (·.1)).take k).length + 1 ≤ 17592186044416) := Lib.hid (by rw [List.length_take]; omega)
      have hi0 : (0 : Int) ≤ (k : Int) := by omega
      have hi1 : (k : Int) < (n : Int) := by omega
      generalize (nthP xs k).1 = X at *
      clear f0
      go_wp2_with (at_builtin; refine wpList_push rfl _ _ rfl wr w1.heap.size x ((xs.map (·.1)).take k) X rfl rfl Hown.out hlen.out hszr ?_)
      intro v' w5 hown5 g5 hb5
      rw [← Hst.out] at hown5
      have hb5' := hb.trans hb5
      clear g5 hb5 hb
      go_wp2_with fail
      go_roundw
      case rel => exact ⟨k + 1, _, by go_num, rfl, by omega, hown5, hb5'⟩
      case measure => simp [intOf]; omega
    · have hkn : k = n := by omega
      subst hkn
      have Hall : Hid ((xs.map (·.1)).take k = xs.map (·.1)) := Lib.hid (List.take_of_length_le (by rw [List.length_map, Hn.out]; exact Nat.le_refl _))
      go_wp2_with fail
      go_ret
      exact ⟨_, rfl, by rw [← Hall.out]; exact Hown.out.mono hsz, hb1.trans (hb.mono hsz)⟩

theorem way_one (D : List (List Int)) (c : List Int) : wayTo D c 1 = arcI D 0 (nth c 0 + 1) + arcI D (nth c (c.length - 1) + 1) 0 := rfl
theorem way_succ (D : List (List Int)) (c : List Int) (k : Nat) : wayTo D c (k + 2) = wayTo D c (k + 1) + arcI D (nth c k + 1) (nth c (k + 1) + 1) := rfl

set_option maxRecDepth 100000 in
set_option maxHeartbeats 6400000 in
theorem refWay_is (i0 i1 i2 i3 : Int) (cv dv lv : Value) (D : List (List Int)) (c : List Int) (w : World) (hG : Grid w dv D) (hD : ArcBd D) (hl : Ints w lv c) (hp : 0 < c.length) (hlen : c.length ≤ 1000) (hcb : ∀ k, 0 ≤ nth c k ∧ nth c k ≤ 1000000) :
    Calls Tryz.prog 75 #[.agg #[.int .i64 i0, .int .i64 i1, .int .i64 i2, .int .i64 i3, cv, dv], lv] w fun e w' => e = .returned (.int .i64 (wayI D c)) ∧ Below w.heap.size w w' := by
  obtain ⟨w1, ew, hb1, hsz1, hx⟩ := box_inst w (.int .i64 i0) (.int .i64 i1) (.int .i64 i2) (.int .i64 i3) cv dv
  obtain ⟨c0, c1, c2, c3, c4, c5⟩ := hx
  obtain ⟨a, n, lc, rfl, hn, _, hc⟩ := (hl.below hb1).open
  obtain ⟨p, hnp⟩ : ∃ p, n = p + 1 := ⟨n - 1, by omega⟩
  have HG := Lib.hid (hG.below hb1)
  have Hew := Lib.hid ew
  have Hc := Lib.hid hc
  have Hn := Lib.hid hn
  have hsz : w.heap.size ≤ w1.heap.size := hb1.size
  have hn3 : (n : Int) ≤ 1000 := by omega
  obtain ⟨b, o, rfl, e0⟩ := hc 0 (by omega)
  obtain ⟨_, _, he, e1⟩ := hc p (by omega)
  simp only [Option.some.injEq, Addr.mk.injEq, and_true] at he
  obtain ⟨rfl, rfl⟩ := he
  rw [Nat.add_zero] at e0
  have hX := hcb 0
  have hY := hcb p
  have h1 : ((n : Int) == 0) = false := by simp; omega
  have hone := way_one D c
  rw [hn, hnp, show p + 1 - 1 = p by omega] at hone
  have Hcb := Lib.hid hcb
  have HDb := Lib.hid hD
  have Harc := Lib.hid (fun (W : World) (x y : Int) (h : Below w1.heap.size w1 W) => refArc_is i0 i1 i2 i3 cv dv D x y W (HG.out.below h))
  have Hone := Lib.hid hone
  obtain ⟨X, hXe⟩ : ∃ X, X = nth c 0 := ⟨_, rfl⟩
  obtain ⟨Y, hYe⟩ : ∃ Y, Y = nth c p := ⟨_, rfl⟩
  rw [← hXe] at e0 hX Hone
  rw [← hYe] at e1 hY Hone
  obtain ⟨hX1, hX2⟩ := hX
  obtain ⟨hY1, hY2⟩ := hY
  have hw1 : IntKind.i64.wrap (X + 1) = X + 1 := IntWalk.i64_in _ (by omega)
  have hw2 : IntKind.i64.wrap (Y + 1) = Y + 1 := IntWalk.i64_in _ (by omega)
  have hw3 : IntKind.i64.wrap ((n : Int) - 1) = (p : Int) := by rw [IntWalk.i64_in _ (by omega)]; omega
  have hA := hD 0 (X + 1)
  have hB := hD (Y + 1) 0
  obtain ⟨A, hAe⟩ : ∃ A, A = arcI D 0 (X + 1) := ⟨_, rfl⟩
  obtain ⟨B, hBe⟩ : ∃ B, B = arcI D (Y + 1) 0 := ⟨_, rfl⟩
  rw [← hAe] at hA Hone
  rw [← hBe] at hB Hone
  obtain ⟨hA1, hA2⟩ := hA
  obtain ⟨hB1, hB2⟩ := hB
  have hHA := fun (W : World) (h : Below w1.heap.size w1 W) => Harc.out W 0 (X + 1) h
  have hHB := fun (W : World) (h : Below w1.heap.size w1 W) => Harc.out W (Y + 1) 0 h
  rw [← hAe] at hHA
  rw [← hBe] at hHB
  have HA := Lib.hid hHA
  have HB := Lib.hid hHB
  clear hHA hHB
  have hw4 : IntKind.i64.wrap (A + B) = A + B := IntWalk.i64_in _ (by omega)
  have hp0 : (0 : Int) ≤ (p : Int) := by omega
  have hp1 : (p : Int) < (n : Int) := by omega
  have hn0 : (0 : Int) < (n : Int) := by omega
  have hn0n : 0 < n := by omega
  have hpn : p < n := by omega
  have b0 := Below.refl w1.heap.size w1
  have Hp := Lib.hid hnp
  clear ew hsz1 hl hG hc hn hone hXe hYe hAe hBe hD hcb hnp hlen
  go_enter Tryz.func75, Tryz.ntmps75
  go_upto_region 1 with (fail)
  rw [Hew.out]
  generalize eg : w.heap.size = g at *
  have Heg := Lib.hid eg
  clear eg
  go_upto_region 3 with fail
  go_cut [5] (fun s5 wx => s5 = .int .i64 (A + B) ∧ Below w1.heap.size w1 wx)
  case first =>
    go_region_held3 (fun w' => w'.cell? ⟨g, 0, none⟩ = some (.int .i64 i0) ∧ w'.cell? ⟨g, 1, none⟩ = some (.int .i64 i1) ∧ w'.cell? ⟨g, 2, none⟩ = some (.int .i64 i2) ∧ w'.cell? ⟨g, 3, none⟩ = some (.int .i64 i3) ∧ w'.cell? ⟨g, 4, none⟩ = some cv ∧ w'.cell? ⟨g, 5, none⟩ = some dv ∧
        w'.cell? ⟨b, o, none⟩ = some (.int .i64 X) ∧ w'.cell? ⟨b, o + p, none⟩ = some (.int .i64 Y))
      (first | go_keep | exact ⟨cell_below b7 c0, cell_below b7 c1, cell_below b7 c2, cell_below b7 c3, cell_below b7 c4, cell_below b7 c5, cell_below b7 e0, cell_below b7 e1⟩ | exact ⟨cell_below b6 c0, cell_below b6 c1, cell_below b6 c2, cell_below b6 c3, cell_below b6 c4, cell_below b6 c5, cell_below b6 e0, cell_below b6 e1⟩)
      (first
        | (go_at_call 26; (with_reducible refine (HA.out _ ?_).mono ?_); (first | exact b0 | exact belDrew _); rintro e w6 ⟨rfl, hb6⟩; (first | have b6 := bel2 b0 hb6 | have b6 := bel2 (belDrew w1) hb6))
        | (go_at_call 26; (with_reducible refine (HB.out _ ?_).mono ?_); exact b6; rintro e w7 ⟨rfl, hb7⟩; have b7 := bel2 b6 hb7))
    all_goals
      go_wp2_with fail
      go_meet
      exact ⟨rfl, by first | exact b7 | exact b7.drew⟩
  case rest =>
    obtain ⟨rfl, hbc⟩ := hcut
    obtain ⟨w5, rfl⟩ : ∃ w5 : World, w5 = wc := ⟨_, rfl⟩
    have Hbc := Lib.hid hbc
    clear hw1 hw2 hw3 hw4 e0 e1 hbc
    go_wp2_with fail
    go_loopw [5, 6] (fun s i wr => ∃ (k : Nat) (S : Int), i = .int .i64 ((k : Int) + 1) ∧ s = .int .i64 S ∧ S = wayTo D c (k + 1) ∧ k + 1 ≤ n ∧ Below w1.heap.size w1 wr) (fun _ i _ => n - (intOf i).toNat)
    case atStart => exact ⟨0, A + B, rfl, rfl, Hone.out.symm, by omega, Hbc.out⟩
    case round =>
      obtain ⟨k, S, rfl, rfl, hS, hk, hb⟩ := hrel
      have hSb := way_bd HDb.out c (k + 1)
      rw [← hS] at hSb
      obtain ⟨hS1, hS2⟩ := hSb
      have HS := Lib.hid hS
      have Hb := Lib.hid hb
      obtain ⟨d0, d1, d2, d3, d4, d5⟩ := six_below hb ⟨c0, c1, c2, c3, c4, c5⟩
      clear hS hb
      by_cases hlt : k + 1 < n
      · obtain ⟨_, _, he1, f0⟩ := Hc.out k (by omega)
        simp only [Option.some.injEq, Addr.mk.injEq, and_true] at he1
        obtain ⟨rfl, rfl⟩ := he1
        obtain ⟨_, _, he2, f1⟩ := Hc.out (k + 1) hlt
        simp only [Option.some.injEq, Addr.mk.injEq, and_true] at he2
        obtain ⟨rfl, rfl⟩ := he2
        have f0r := cell_below Hb.out f0
        have f1r := cell_below Hb.out f1
        have hx := Hcb.out k
        have hy := Hcb.out (k + 1)
        obtain ⟨hx1, hx2⟩ := hx
        obtain ⟨hy1, hy2⟩ := hy
        have hst := way_succ D c k
        rw [← HS.out] at hst
        have Hst := Lib.hid hst
        generalize nth c k = P at *
        generalize nth c (k + 1) = Q at *
        have hA := HDb.out (P + 1) (Q + 1)
        have HAr := Lib.hid (fun (W : World) (h : Below wr.heap.size wr W) => Harc.out W (P + 1) (Q + 1) (bel2 Hb.out h))
        generalize arcI D (P + 1) (Q + 1) = R at *
        obtain ⟨hA1', hA2'⟩ := hA
        have hk2 : (k : Int) ≤ 1000 := by omega
        have hv1 : IntKind.i64.wrap ((k : Int) + 1 - 1) = (k : Int) := by rw [IntWalk.i64_in _ (by omega)]; omega
        have hv5 : IntKind.i64.wrap (k : Int) = (k : Int) := IntWalk.i64_in _ (by omega)
        have hv2 : IntKind.i64.wrap (P + 1) = P + 1 := IntWalk.i64_in _ (by omega)
        have hv3 : IntKind.i64.wrap (Q + 1) = Q + 1 := IntWalk.i64_in _ (by omega)
        have hv4 : IntKind.i64.wrap (S + R) = S + R := IntWalk.i64_in _ (by omega)
        have hi0 : (0 : Int) ≤ (k : Int) := by omega
        have hi1 : (k : Int) < (n : Int) := by omega
        have hi2 : (k : Int) + 1 < (n : Int) := by omega
        have hi3 : (0 : Int) ≤ (k : Int) + 1 := by omega
        have hi4 : ((k : Int) + 1).toNat = k + 1 := by omega
        have hi5 : k < n := by omega
        have hi6 : k + 1 < n := by omega
        have b00 := Below.refl wr.heap.size wr
        clear f0 f1 hst
        go_wp2_with fail
        go_region_held3 (fun w' => w'.cell? ⟨g, 0, none⟩ = some (.int .i64 i0) ∧ w'.cell? ⟨g, 1, none⟩ = some (.int .i64 i1) ∧ w'.cell? ⟨g, 2, none⟩ = some (.int .i64 i2) ∧ w'.cell? ⟨g, 3, none⟩ = some (.int .i64 i3) ∧ w'.cell? ⟨g, 4, none⟩ = some cv ∧ w'.cell? ⟨g, 5, none⟩ = some dv ∧
            w'.cell? ⟨b, o + k, none⟩ = some (.int .i64 P) ∧ w'.cell? ⟨b, o + (k + 1), none⟩ = some (.int .i64 Q))
          (first | go_keep | exact ⟨cell_below b6 d0, cell_below b6 d1, cell_below b6 d2, cell_below b6 d3, cell_below b6 d4, cell_below b6 d5, cell_below b6 f0r, cell_below b6 f1r⟩)
          (first | (go_at_call 26; refine (HAr.out _ ?_).mono ?_; (first | exact b00 | exact belDrew _); rintro e w6 ⟨rfl, hb6⟩; (first | have b6 := bel2 b00 hb6 | have b6 := bel2 (belDrew wr) hb6)))
        all_goals
          clear hv1
          go_wp2_with fail
          go_roundw
          case rel => exact ⟨k + 1, S + R, by go_num, rfl, Hst.out.symm, by omega, (by first | exact bel2 Hb.out b6 | exact bel2 Hb.out b6.drew)⟩
          case measure => simp [intOf]; omega
      · have hkn : k + 1 = n := by omega
        have Hr : Hid (S = wayI D c) := Lib.hid (by unfold wayI; rw [Hn.out, ← hkn]; exact HS.out)
        have hge : decide ((k : Int) + 1 < (n : Int)) = false := by simp; omega
        clear hkn hlt
        go_wp2_with fail
        go_ret
        rw [Hr.out]
        exact ⟨rfl, by rw [Heg.out]; exact hb1.trans (Hb.out.mono hsz)⟩
end

section
open Go.RowKit
set_option linter.unusedVariables false
set_option maxRecDepth 100000

def nthT (T : List (List (Int × Int))) (i : Nat) : List (Int × Int) := T.getD i []
theorem nthT_append_left {T : List (List (Int × Int))} {r : List (Int × Int)} {i : Nat} (h : i < T.length) : nthT (T ++ [r]) i = nthT T i := by simp [nthT, List.getElem?_append, h]
theorem nthT_append_here {T : List (List (Int × Int))} {r : List (Int × Int)} : nthT (T ++ [r]) T.length = r := by simp [nthT]

/-- The tours' slice v holds the rows T; rvs are the rows' values. -/
structure OwnT (E : TypeId) (w : World) (B : Nat) (v : Value) (T : List (List (Int × Int))) (rvs : List Value) : Prop where
  len : rvs.length = T.length
  outer : w.ownsRow B 102 1 v T.length rvs
  row : ∀ i, i < T.length → OwnP2 E w B (rvs.getD i undef) (nthT T i)
  off : ∀ i, i < T.length → ∀ k, v.ownBlock = some k → (rvs.getD i undef).ownBlock ≠ some k
  apart : ∀ i j, i < T.length → j < T.length → i ≠ j → ∀ k, (rvs.getD i undef).ownBlock = some k → (rvs.getD j undef).ownBlock ≠ some k
theorem OwnT.nil (E : TypeId) (w : World) (B : Nat) : OwnT E w B (.slice none 0 0) [] [] :=
  ⟨rfl, World.ownsRow_nil _ _ _ _, fun i hi => absurd hi (by simp), fun i hi => absurd hi (by simp), fun i j hi => absurd hi (by simp)⟩

theorem OwnT.mono {E : TypeId} {w : World} {B B' : Nat} {v : Value} {T : List (List (Int × Int))} {rvs : List Value} (h : OwnT E w B v T rvs) (hB : B' ≤ B) : OwnT E w B' v T rvs :=
  ⟨h.len, owns_mono h.outer hB, fun i hi => (h.row i hi).mono hB, h.off, h.apart⟩
/-- A block below is turned: the tours stay. -/
theorem OwnT.kept {E : TypeId} {w w' : World} {B g : Nat} {v : Value} {T : List (List (Int × Int))} {rvs : List Value} (h : OwnT E w B v T rvs) (hg : w.grownBy w' (some g)) (hB : g < B) : OwnT E w' B v T rvs := by
  refine ⟨h.len, World.ownsRow.kept h.outer hg ?_, fun i hi => (h.row i hi).kept hg ((h.row i hi).not hB), h.off, h.apart⟩
  cases hv : v.ownBlock with
  | none => exact .inl rfl
  | some k => exact .inr (fun e => by have := (World.ownsRow.lt h.outer k hv).1; simp at e; omega)

/-- Behind 'd.Tours = append(d.Tours, api.Tour{})': a new tour without stops. -/
theorem OwnT.pushed {E : TypeId} {w w' : World} {B : Nat} {v : Value} {T : List (List (Int × Int))} {rvs : List Value} {g c : Nat} (h : OwnT E w B v T rvs)
    (h1 : w'.ownsRow B 102 1 (.slice (some ⟨g, 0, none⟩) (T.length + 1) c) (T.length + 1) (rvs ++ [.slice none 0 0])) (hg : w.grownBy w' v.ownBlock) (hat : v.ownBlock = some g ∨ w.heap.size ≤ g) :
    OwnT E w' B (.slice (some ⟨g, 0, none⟩) (T.length + 1) c) (T ++ [[]]) (rvs ++ [.slice none 0 0]) := by
  obtain ⟨hl, ho, hr, hoff, hap⟩ := h
  have e0 : ∀ i, i < T.length → (rvs ++ [Value.slice none 0 0]).getD i undef = rvs.getD i undef := fun i hi => by simp [List.getD, List.getElem?_append, hl, hi]
  have e1 : (rvs ++ [Value.slice none 0 0]).getD T.length undef = .slice none 0 0 := by simp [List.getD, ← hl]
  refine ⟨by simp [hl], by simpa using h1, fun i hi => ?_, fun i hi k hk => ?_, fun i j hi hj hij k hk => ?_⟩
  · rw [List.length_append, List.length_singleton] at hi
    by_cases h' : i < T.length
    · rw [nthT_append_left h', e0 i h']
      refine (hr i h').kept hg ?_
      cases hv : v.ownBlock with
      | none => cases (rvs.getD i undef).ownBlock <;> simp
      | some k => exact .inr (hoff i h' k hv)
    · have : i = T.length := by omega
      subst this
      rw [nthT_append_here, e1]
      exact OwnP2.nil _ _ _
  · rw [List.length_append, List.length_singleton] at hi
    simp only [Value.ownBlock, Option.some.injEq] at hk
    subst hk
    by_cases h' : i < T.length
    · rw [e0 i h']
      rcases hat with hat | hat
      · exact hoff i h' g hat
      · intro e
        have := ((hr i h').lt _ e).2
        omega
    · have : i = T.length := by omega
      subst this
      rw [e1]; simp [Value.ownBlock]
  · rw [List.length_append, List.length_singleton] at hi hj
    by_cases h' : i < T.length
    · rw [e0 i h'] at hk
      by_cases h'' : j < T.length
      · rw [e0 j h'']; exact hap i j h' h'' hij k hk
      · have : j = T.length := by omega
        subst this
        rw [e1]; simp [Value.ownBlock]
    · have : i = T.length := by omega
      subst this
      rw [e1] at hk
      simp [Value.ownBlock] at hk

theorem nthT_set_here {T : List (List (Int × Int))} {k : Nat} {r : List (Int × Int)} (h : k < T.length) : nthT (T.set k r) k = r := by simp [nthT, h]
theorem nthT_set_other {T : List (List (Int × Int))} {k i : Nat} {r : List (Int × Int)} (h : i ≠ k) : nthT (T.set k r) i = nthT T i := by
  simp [nthT, show ¬ k = i from fun e => h e.symm]
theorem getD_set_here {rvs : List Value} {k : Nat} {x : Value} (h : k < rvs.length) : (rvs.set k x).getD k undef = x := by simp [List.getD, h]
theorem getD_set_other {rvs : List Value} {k i : Nat} {x : Value} (h : i ≠ k) : (rvs.set k x).getD i undef = rvs.getD i undef := by
  simp [List.getD, show ¬ k = i from fun e => h e.symm]
/-- Behind 'd.Tours[k].Stops = append(d.Tours[k].Stops, p)': the k-th tour has a stop more. -/
theorem OwnT.moved {E : TypeId} {w w1 : World} {B g n cap g1 m c : Nat} {T : List (List (Int × Int))} {rvs : List Value} {k : Nat} {r : List (Int × Int)} (h : OwnT E w B (.slice (some ⟨g, 0, none⟩) n cap) T rvs) (hn : n = T.length) (hk : k < T.length)
    (h1 : OwnP2 E w1 B (.slice (some ⟨g1, 0, none⟩) m c) r) (hg : w.grownBy w1 (rvs.getD k undef).ownBlock) (hat : (rvs.getD k undef).ownBlock = some g1 ∨ w.heap.size ≤ g1) :
    OwnT E (w1.setCell ⟨g, k, none⟩ (.slice (some ⟨g1, 0, none⟩) m c)) B (.slice (some ⟨g, 0, none⟩) n cap) (T.set k r) (rvs.set k (.slice (some ⟨g1, 0, none⟩) m c)) := by
  subst hn
  obtain ⟨hl, ho, hr, hoff, hap⟩ := h
  have hgo : g < w.heap.size := (World.ownsRow.lt ho g rfl).2
  have ho1 : w1.ownsRow B 102 1 (.slice (some ⟨g, 0, none⟩) T.length cap) T.length rvs := World.ownsRow.kept ho hg (.inr (fun e => hoff k hk g rfl e.symm))
  obtain ⟨ho2, hg2⟩ := World.ownsRow.stored ho1 k (.slice (some ⟨g1, 0, none⟩) m c)
  have hne1 : g1 ≠ g := by
    intro e
    subst e
    rcases hat with e | e
    · exact hoff k hk g1 rfl e
    · omega
  have hkl : k < rvs.length := by omega
  refine ⟨by simp [hl], by simpa using ho2, fun i hi => ?_, fun i hi j hj => ?_, fun i j hi hj hij q hq => ?_⟩
  · rw [List.length_set] at hi
    by_cases e : i = k
    · subst e
      rw [nthT_set_here hk, getD_set_here hkl]
      exact h1.kept hg2 (.inr (by simp [Value.ownBlock, hne1]))
    · rw [nthT_set_other e, getD_set_other e]
      refine OwnP2.kept ((hr i hi).kept hg ?_) hg2 ?_
      · cases hv : (rvs.getD i undef).ownBlock with
        | none => exact .inl rfl
        | some x => exact .inr (fun e2 => hap i k hi hk e x hv e2.symm)
      · exact .inr (hoff i hi g rfl)
  · rw [List.length_set] at hi
    simp only [Value.ownBlock, Option.some.injEq] at hj
    subst hj
    by_cases e : i = k
    · subst e
      rw [getD_set_here hkl]
      simp [Value.ownBlock, hne1]
    · rw [getD_set_other e]
      exact hoff i hi g rfl
  · rw [List.length_set] at hi hj
    have old : ∀ i, i < T.length → i ≠ k → (rvs.getD i undef).ownBlock ≠ some g1 := by
      intro i hi e hv
      rcases hat with e2 | e2
      · exact hap i k hi hk e g1 hv e2
      · have := ((hr i hi).lt _ hv).2
        omega
    by_cases e : i = k
    · subst e
      rw [getD_set_here hkl] at hq
      simp only [Value.ownBlock, Option.some.injEq] at hq
      subst hq
      rw [getD_set_other (fun e => hij e.symm)]
      exact old j hj (fun e => hij e.symm)
    · rw [getD_set_other e] at hq
      by_cases e2 : j = k
      · subst e2
        rw [getD_set_here hkl]
        simp only [Value.ownBlock]
        intro e3
        exact old i hi e (by rw [hq, e3])
      · rw [getD_set_other e2]
        exact hap i j hi hj hij q hq
end

end Go.Proofs.YtnhcgpkcmfelkaaGreat
