/-
  My own work: slices of api.Visit; stock.Visits and stock.Brings: their contracts.
  My own work: stock.Brings: its contract.
  My own work: bringings as visits and back, plainly.
-/
import Derived.Test.YtnhcgpkcmfelkaaGreatMNum
import Derived.RegionTactic
import Derived.Deep.QuietTactic
import Derived.BigQuiet
import Derived.Deep.RegionHeld3
import Derived.StillTailTactics
import Derived.Deep.RegionWith
import Derived.Deep.RegionLaw
import Derived.Test.YtnhcgpkcmfelkaaGreatMStock
namespace Go.Proofs.YtnhcgpkcmfelkaaGreat
section
open Go.RowKit
set_option linter.unusedVariables false
set_option maxRecDepth 100000

/-- The k-th visit. -/
def nthV (xs : List (Int × Int)) (k : Nat) : Int × Int := xs.getD k (0, 0)
theorem nthV_lt {xs : List (Int × Int)} {k : Nat} (h : k < xs.length) : nthV xs k = xs[k] := by simp [nthV, h]
theorem takeV_succ (xs : List (Int × Int)) (k : Nat) (h : k < xs.length) : xs.take (k + 1) = xs.take k ++ [nthV xs k] := by
  rw [nthV_lt h, List.take_succ_eq_append_getElem h]

/-- The slice value v reads as these visits (day, quantity). -/
def Vis (w : World) (v : Value) (xs : List (Int × Int)) : Prop :=
  ∃ (a : Option Addr) (c : Nat), v = .slice a xs.length c ∧ xs.length ≤ c ∧ c ≤ 9223372036854775807 ∧ ∀ i, i < xs.length → ∃ b o, a = some ⟨b, o, none⟩ ∧
    w.cell? ⟨b, o + i * 2, none⟩ = some (.int .i64 (nthV xs i).1) ∧ w.cell? ⟨b, o + i * 2 + 1, none⟩ = some (.int .i64 (nthV xs i).2)

theorem Vis.nil (w : World) : Vis w (.slice none 0 0) [] := ⟨none, 0, rfl, by simp, by simp, fun i hi => absurd hi (by simp)⟩
theorem Vis.below {w w' : World} {v : Value} {xs : List (Int × Int)} (h : Vis w v xs) (hb : Below w.heap.size w w') : Vis w' v xs := by
  obtain ⟨a, c, hv, h1, h2, hc⟩ := h
  refine ⟨a, c, hv, h1, h2, fun i hi => ?_⟩
  obtain ⟨b, o, ha, h0, h0'⟩ := hc i hi
  exact ⟨b, o, ha, cell_below hb h0, cell_below hb h0'⟩
theorem Vis.open {w : World} {v : Value} {xs : List (Int × Int)} (h : Vis w v xs) :
    ∃ (a : Option Addr) (n c : Nat), v = .slice a n c ∧ xs.length = n ∧ n ≤ 9223372036854775807 ∧ ∀ k, k < n → ∃ b o, a = some ⟨b, o, none⟩ ∧
      w.cell? ⟨b, o + k * 2, none⟩ = some (.int .i64 (nthV xs k).1) ∧ w.cell? ⟨b, o + k * 2 + 1, none⟩ = some (.int .i64 (nthV xs k).2) := by
  obtain ⟨a, c, rfl, h1, h2, hc⟩ := h
  exact ⟨a, xs.length, c, rfl, rfl, by omega, hc⟩

def visCells (xs : List (Int × Int)) : List Value := xs.flatMap fun p => [.int .i64 p.1, .int .i64 p.2]
theorem visCells_len (xs : List (Int × Int)) : (visCells xs).length = xs.length * 2 := by
  induction xs with
  | nil => rfl
  | cons x xs ih => simp only [visCells, List.flatMap_cons, List.length_append, List.length_cons, List.length_nil] at *; omega
theorem visCells_append (xs ys : List (Int × Int)) : visCells (xs ++ ys) = visCells xs ++ visCells ys := by simp [visCells]
theorem visCells_get (xs : List (Int × Int)) (i : Nat) (h : i < xs.length) : (visCells xs)[i * 2]? = some (.int .i64 (nthV xs i).1) ∧ (visCells xs)[i * 2 + 1]? = some (.int .i64 (nthV xs i).2) := by
  induction xs generalizing i with
  | nil => simp at h
  | cons x xs ih =>
    have e : visCells (x :: xs) = Value.int .i64 x.1 :: Value.int .i64 x.2 :: visCells xs := rfl
    cases i with
    | zero => rw [e]; exact ⟨rfl, rfl⟩
    | succ i =>
      have := ih i (by simpa using h)
      rw [e, show (i + 1) * 2 = i * 2 + 1 + 1 by omega]
      simpa [nthV] using this

/-- A slice of visits that the call itself has made. -/
def OwnV (w : World) (B : Nat) (v : Value) (xs : List (Int × Int)) : Prop := w.ownsRow B 76 2 v xs.length (visCells xs)
theorem OwnV.nil (w : World) (B : Nat) : OwnV w B (.slice none 0 0) [] := World.ownsRow_nil _ _ _ _
theorem OwnV.lt {w : World} {B : Nat} {v : Value} {xs : List (Int × Int)} (h : OwnV w B v xs) : ∀ k, v.ownBlock = some k → B ≤ k ∧ k < w.heap.size := World.ownsRow.lt h
theorem OwnV.mono {w : World} {B B' : Nat} {v : Value} {xs : List (Int × Int)} (h : OwnV w B v xs) (hB : B' ≤ B) : OwnV w B' v xs := by
  obtain ⟨h1, h2⟩ := h
  refine ⟨h1, ?_⟩
  rcases h2 with h2 | ⟨g, cap, cur, hv, hb, r⟩
  · exact .inl h2
  · exact .inr ⟨g, cap, cur, hv, by omega, r⟩
theorem OwnV.below {w w' : World} {B : Nat} {v : Value} {xs : List (Int × Int)} (h : OwnV w B v xs) (hb : Below w.heap.size w w') : OwnV w' B v xs :=
  World.ownsRow.kept (row := none) h (grownBy_below hb) (by cases v.ownBlock <;> simp)
theorem OwnV.vis {w : World} {B : Nat} {v : Value} {xs : List (Int × Int)} (h : OwnV w B v xs) : Vis w v xs := by
  have hc := fun (g : Nat) => World.ownsRow.cells h (g := g)
  obtain ⟨h1, h2⟩ := h
  rcases h2 with ⟨rfl, h0⟩ | ⟨g, cap, cur, rfl, _, _, h3, h4, _⟩
  · rw [List.length_eq_zero_iff.1 h0]
    exact Vis.nil w
  · refine ⟨some ⟨g, 0, none⟩, cap, rfl, h3, h4, fun i hi => ⟨g, 0, rfl, ?_⟩⟩
    obtain ⟨e1, e2⟩ := visCells_get xs i hi
    have h1 := hc g rfl _ _ e1
    have h2 := hc g rfl _ _ e2
    have ha : ∀ j, (⟨g, 0, none⟩ : Addr).add j = ⟨g, 0 + j, none⟩ := fun j => by unfold Addr.add; split <;> simp_all
    rw [ha] at h1 h2
    exact ⟨h1, by rw [Nat.add_assoc]; exact h2⟩

theorem info_visit : (Tryz.prog.info? 76).map (fun i => (i.zero, i.size, i.bytes)) = some (some (.agg #[.int .i64 0, .int .i64 0]), 2, 16) := by kernel_rfl

theorem cell_new2 (w : World) (v1 v2 : Value) (T : TypeId) : ∀ j u, ([v1, v2] : List Value)[j]? = some u → (w.alloc (.cells #[v1, v2] T)).cell? ((⟨w.heap.size, 0, none⟩ : Addr).add j) = some u := by
  intro j u hj
  match j, hj with
  | 0, hj => simp at hj; subst hj; simp [Addr.add, World.cell?_alloc_new]
  | 1, hj => simp at hj; subst hj; simp [Addr.add, World.cell?_alloc_new]

/-- 'v = append(v, Visit{d, q})'. -/
theorem wpList_pushV {ops : Array Oper} {rest : List Oper} {o : Oper} {a : Act} {Q : Exit → Act → World → Prop} (hgd : o.guard = none) (s x : Operand)
    (ho : o.op = .call { callee := .builtin .append, args := #[s, x], argTypes := #[72, 72] }) (w : World) (B : Nat) (v : Value) (xs : List (Int × Int)) (y z : Int) (hs : a.eval s = v)
    (hx : a.eval x = .slice (some ⟨w.heap.size, 0, none⟩) 1 1) (hown : OwnV w B v xs) (hlen : xs.length + 1 ≤ 8796093022208) (hB : B ≤ w.heap.size)
    (h : ∀ v' w', OwnV w' B v' (xs ++ [(y, z)]) → w.grownBy w' v.ownBlock → Below B w w' → wpList Tryz.prog ops Q rest (a.put o.dst v') w') :
    wpList Tryz.prog ops Q (o :: rest) a (w.alloc (.cells #[.int .i64 y, .int .i64 z] 76)) := by
  obtain ⟨i, hi, hz, hsz, hby⟩ := info_parts info_visit
  refine wpList_append_own _ hgd s x 72 ho B 76 i (.agg #[.int .i64 0, .int .i64 0]) 2 16 Tryz.underlying72 hi hz hsz hby rfl (by decide) v xs.length (visCells xs) hs (World.ownsRow.alloc hown _)
    ⟨w.heap.size, 0, none⟩ 1 1 [.int .i64 y, .int .i64 z] hx rfl (cell_new2 w _ _ _) (by intro u hu; simp at hu; rcases hu with rfl | rfl <;> rfl) (by simp only [maxLen]; omega) (by omega) (by simp; omega) ?_
  intro v' w' hown' hg _
  have hg' : w.grownBy w' v.ownBlock := grownBy_trans (World.grownBy_alloc w _ _) hg
  refine h v' w' (by simpa [OwnV, visCells_append, visCells] using hown') hg' ?_
  exact (Below.refl B w).grown hg' hB (fun k hk => (hown.lt k hk).1)

/-! ### stock.Visits -/
/-- The visits of the first k days of these bringings. -/
def visitsTo (q : List Int) : Nat → List (Int × Int)
  | 0 => []
  | k + 1 => if 0 < nth q k then visitsTo q k ++ [((k : Int), nth q k)] else visitsTo q k
def visitsOf (q : List Int) : List (Int × Int) := visitsTo q q.length
theorem visitsTo_len (q : List Int) (k : Nat) : (visitsTo q k).length ≤ k := by
  induction k with
  | zero => simp [visitsTo]
  | succ k ih =>
    unfold visitsTo
    split
    · simp; omega
    · omega

set_option maxHeartbeats 800000 in
theorem visits_is (qv : Value) (q : List Int) (w : World) (hq : Ints w qv q) (hlen : q.length ≤ 1048576) :
    Calls Tryz.prog 121 #[qv] w fun e w' => ∃ v, e = .returned v ∧ OwnV w' w.heap.size v (visitsOf q) ∧ Below w.heap.size w w' := by
  obtain ⟨a, n, c, rfl, hn, hmax, hcell⟩ := hq.open
  have Hn := Lib.hid hn
  have Hcell := Lib.hid hcell
  have hl : n ≤ 1048576 := by omega
  clear hn hcell hq hmax hlen
  go_enter Tryz.func121, Tryz.ntmps121
  go_wp2_with fail
  go_loopw [3, 8] (fun u i wr => ∃ (k : Nat) (v : Value), k ≤ n ∧ v = u ∧ i = .int .i64 k ∧ OwnV wr w.heap.size v (visitsTo q k) ∧ Below w.heap.size w wr) (fun _ i _ => n - (intOf i).toNat)
  case atStart => exact ⟨0, _, Nat.zero_le _, rfl, rfl, OwnV.nil _ _, Below.refl _ _⟩
  case round =>
    obtain ⟨k, v, hk, rfl, rfl, hown, hb⟩ := hrel
    by_cases hlt : k < n
    · obtain ⟨b, o, rfl, hc0⟩ := Hcell.out k hlt
      have hc := cell_below hb hc0
      clear hc0
      by_cases h0 : 0 < nth q k
      · have Hs : Hid (visitsTo q (k + 1) = visitsTo q k ++ [((k : Int), nth q k)]) := by show _ = _; rw [visitsTo, if_pos h0]
        go_wp2_with (at_builtin; refine wpList_pushV rfl _ _ rfl wr w.heap.size v (visitsTo q k) k (nth q k) rfl rfl hown (by have := visitsTo_len q k; omega) hb.size ?_)
        intro v' w5 hown5 g5 hb5
        rw [← Hs.out] at hown5
        have hb5' := hb.trans hb5
        clear hc g5 hb5
        go_wp2_with fail
        go_roundw
        case rel => exact ⟨k + 1, _, by omega, rfl, by go_num, hown5, hb5'⟩
        case measure => simp [intOf]; omega
      · have Hs : Hid (visitsTo q (k + 1) = visitsTo q k) := by show _ = _; rw [visitsTo, if_neg h0]
        go_wp2_with fail
        go_roundw
        case rel => exact ⟨k + 1, _, by omega, rfl, by go_num, by rw [Hs.out]; exact hown, hb⟩
        case measure => simp [intOf]; omega
    · have Hs : Hid (visitsOf q = visitsTo q k) := by show _ = _; unfold visitsOf; rw [Hn.out]; congr 1; omega
      go_wp2_with fail
      go_ret
      rw [Hs.out]
      exact ⟨_, rfl, hown, hb⟩
end

section
open Go.RowKit
set_option linter.unusedVariables false
set_option maxRecDepth 100000

/-- One visit more. -/
def bring (acc : List Int) (p : Int × Int) : List Int := if 0 ≤ p.1 ∧ p.1 < acc.length then acc.set p.1.toNat (satI (nth acc p.1.toNat) p.2) else acc
def bringsTo (xs : List (Int × Int)) (N : Nat) (k : Nat) : List Int := (xs.take k).foldl bring (List.replicate N 0)
def bringsOf (xs : List (Int × Int)) (N : Nat) : List Int := xs.foldl bring (List.replicate N 0)
theorem bringsTo_succ (xs : List (Int × Int)) (N k : Nat) (h : k < xs.length) : bringsTo xs N (k + 1) = bring (bringsTo xs N k) (nthV xs k) := by
  unfold bringsTo; rw [takeV_succ xs k h, List.foldl_append]; rfl
theorem bring_len (acc : List Int) (p : Int × Int) : (bring acc p).length = acc.length := by unfold bring; split <;> simp
theorem foldl_bring_len (xs : List (Int × Int)) (acc : List Int) : (xs.foldl bring acc).length = acc.length := by
  induction xs generalizing acc with
  | nil => rfl
  | cons x xs ih => rw [List.foldl_cons, ih, bring_len]
theorem bringsTo_len (xs : List (Int × Int)) (N k : Nat) : (bringsTo xs N k).length = N := by unfold bringsTo; rw [foldl_bring_len]; simp
theorem bring_fits (acc : List Int) (p : Int × Int) (h : ∀ x ∈ acc, fitsI x = true) : ∀ x ∈ bring acc p, fitsI x = true := by
  unfold bring
  split
  · intro x hx
    rcases List.mem_or_eq_of_mem_set hx with h' | rfl
    · exact h x h'
    · exact satI_fits _ _
  · exact h
theorem bringsTo_fits (xs : List (Int × Int)) (N k : Nat) : ∀ x ∈ bringsTo xs N k, fitsI x = true := by
  unfold bringsTo
  generalize xs.take k = ys
  have : ∀ (ys : List (Int × Int)) (acc : List Int), (∀ x ∈ acc, fitsI x = true) → ∀ x ∈ ys.foldl bring acc, fitsI x = true := by
    intro ys
    induction ys with
    | nil => exact fun acc h => h
    | cons y ys ih => exact fun acc h => ih _ (bring_fits acc y h)
  refine this ys _ ?_
  intro x hx
  rw [List.eq_of_mem_replicate hx]
  decide

theorem own_made (w' : World) (B g N : Nat) (h : w'.ownsRow B 3 1 (.slice (some ⟨g, 0, none⟩) N N) N (madeCells #[Value.int .i64 0] N).toList) : Own w' B (.slice (some ⟨g, 0, none⟩) N N) (List.replicate N 0) := by
  unfold Own
  rw [List.length_replicate]
  rw [toList_madeCells_one] at h
  rw [List.map_replicate]
  exact h

set_option maxHeartbeats 1600000 in
theorem brings_is (vv : Value) (xs : List (Int × Int)) (m : Int) (w : World) (hv : Vis w vv xs) (hf : ∀ p ∈ xs, fitsI p.2 = true) :
    Calls Tryz.prog 106 #[vv, .int .i64 m] w fun e w' => ∃ v, e = .returned v ∧ Own w' w.heap.size v (bringsOf xs (clipI m 0 64).toNat) ∧ Below w.heap.size w w' := by
  obtain ⟨a, n, c, rfl, hn, hmax, hcell⟩ := hv.open
  have Hn := Lib.hid hn
  have Hcell := Lib.hid hcell
  have Hf := Lib.hid hf
  obtain ⟨N, hN⟩ : ∃ N : Nat, clipI m 0 64 = (N : Int) := ⟨(clipI m 0 64).toNat, by unfold clipI; omega⟩
  have hN64 : N ≤ 64 := by unfold clipI at hN; omega
  have HN := Lib.hid hN
  clear hn hcell hv hN hf
  obtain ⟨ii, hi, hz, hsi, hby⟩ := info_parts info_int
  go_enter Tryz.func106, Tryz.ntmps106
  go_wp2_with fail
  refine (clip_is m 0 64 w).mono ?_
  rintro e w' ⟨rfl, rfl⟩
  rw [HN.out]
  go_wp2_with (at_make; refine wpList_make_full _ rfl _ _ 26 rfl w.heap.size 3 ii (.int .i64 0) 1 Tryz.underlying26 hi hz hsi _ _ _ _ N rfl rfl rfl rfl (by rw [hby]; omega) (by simp only [maxLen]; omega) (Nat.le_refl _) ?_)
  intro w3 hown0 hg3
  have hown := own_made w3 _ _ _ hown0
  have hb3 := (Below.refl w.heap.size w).grown hg3 (Nat.le_refl _) (by simp)
  clear hown0 hg3 hi hz hsi hby
  generalize hg0 : w.heap.size = g at *
  have Hg0 := Lib.hid hg0
  clear hg0
  rw [show List.replicate N 0 = bringsTo xs N 0 from rfl] at hown
  go_wp2_with fail
  go_loopw [13] (fun i wr => ∃ (k : Nat), k ≤ n ∧ i = .int .i64 k ∧ Own wr g (.slice (some ⟨g, 0, none⟩) N N) (bringsTo xs N k) ∧ Below g w wr) (fun i _ => n - (intOf i).toNat)
  case atStart => exact ⟨0, Nat.zero_le _, rfl, hown, hb3⟩
  case round =>
    clear hown hb3
    obtain ⟨k, hk, rfl, hown, hb⟩ := hrel
    by_cases hlt : k < n
    · obtain ⟨b, o, rfl, hc1, hc2⟩ := Hcell.out k hlt
      have hbl := World.block_lt_of_cell? w _ hc1
      have hc := cell_lt hb (by rw [← Hg0.out]; exact hbl) hc1
      have hc' := cell_lt hb (by rw [← Hg0.out]; exact hbl) hc2
      have hgr : g ≤ wr.heap.size := by have := hb.size; rw [Hg0.out] at this; exact this
      have hqf : fitsI (nthV xs k).2 = true := Hf.out _ (by rw [nthV_lt (by rw [Hn.out]; exact hlt)]; exact List.getElem_mem _)
      have Hqf := Lib.hid hqf
      have hi0 : (0 : Int) ≤ (k : Int) := by omega
      have hi1 : (k : Int) < (n : Int) := by omega
      have Hst := Lib.hid (bringsTo_succ xs N k (by rw [Hn.out]; exact hlt))
      clear hc1 hc2 hqf hbl
      obtain ⟨w4, ew4, hb4, hs4, e0, e1⟩ : ∃ w4, wr.alloc (.cells #[.int .i64 (nthV xs k).1, .int .i64 (nthV xs k).2] 76) = w4 ∧ Below wr.heap.size wr w4 ∧ w4.heap.size = wr.heap.size + 1 ∧
          w4.cell? ⟨wr.heap.size, 0, none⟩ = some (.int .i64 (nthV xs k).1) ∧ w4.cell? ⟨wr.heap.size, 1, none⟩ = some (.int .i64 (nthV xs k).2) :=
        ⟨_, rfl, (Below.refl _ _).alloc (Nat.le_refl _) _, by simp, by simp [go_sem], by simp [go_sem]⟩
      have Hew4 := Lib.hid ew4
      have hown4 := hown.below hb4
      have hb4' := hb.trans (hb4.mono hgr)
      have hlen4 := bringsTo_len xs N k
      clear ew4
      by_cases hd : 0 ≤ (nthV xs k).1 ∧ (nthV xs k).1 < N
      · obtain ⟨d, hdd⟩ := Int.eq_ofNat_of_zero_le hd.1
        have hdN : d < N := by omega
        obtain ⟨g', c', hv', _, hgl, _, hcell4⟩ := hown4.out (by rw [hlen4]; omega)
        simp only [Value.slice.injEq, Option.some.injEq, Addr.mk.injEq, and_true] at hv'
        obtain ⟨rfl, hx1, hx2⟩ := hv'
        clear hx1 hx2
        obtain ⟨f0, f1⟩ := hcell4 d (by rw [hlen4]; exact hdN)
        rw [Nat.zero_add] at f0 f1
        have hset := hown4.set d (satI (nth (bringsTo xs N k) d) (nthV xs k).2) (by rw [hlen4]; exact hdN)
        rw [Nat.zero_add] at hset
        have Hset : Hid (Own (w4.setCell ⟨g, d, none⟩ (.int .i64 (satI (nth (bringsTo xs N k) d) (nthV xs k).2))) g (.slice (some ⟨g, 0, none⟩) N N) (bringsTo xs N (k + 1))) := by
          rw [Hst.out]
          unfold bring
          rw [if_pos (by rw [hlen4]; exact hd), hdd]
          exact hset
        have Hcall := Lib.hid (sat_is (nth (bringsTo xs N k) d) (nthV xs k).2 w4.drew (bringsTo_fits xs N k _ (nth_mem (by rw [hlen4]; exact hdN))) Hqf.out)
        rw [hdd] at e0 hc
        have Hew4' := Lib.hid Hew4.out
        rw [hdd] at Hew4'
        have j0 : (0 : Int) ≤ (d : Int) := by omega
        have j1 : (d : Int) < (N : Int) := by omega
        generalize nth (bringsTo xs N k) d = acc at *
        generalize (nthV xs k).2 = qq at *
        have Hf0 := Lib.hid (And.intro f0 (And.intro f1 (And.intro e0 (And.intro e1 (And.intro hs4 (And.intro hb4 hb4'))))))
        clear hset hcell4 hown4 hown hd hdd Hst Hqf f0 f1 e0 e1 hs4 hb4 hb4' hlen4
        go_wp2_with fail
        rw [Hew4'.out]
        obtain ⟨f0, f1, e0, e1, hs4, hb4, hb4'⟩ := Hf0.out
        refine wp_region_still_tail 12 (by kernel_rfl) (by kernel_rfl) ?_
        simp only [List.take_succ_cons, List.take_zero, List.drop_succ_cons, List.drop_zero]
        change wpStill _ _ w4.drew _ _ _
        iterate 10 still_step
        still_call (Hcall.out.mono fun _ _ ⟨h1, h2⟩ => ⟨h1, h2.symm⟩)
        still_step
        refine wpStill_nil ?_
        go_wp2_with fail
        go_roundw
        case rel =>
          refine ⟨k + 1, by omega, by go_num, Hset.out, ?_⟩
          exact (hb4'.drew).setCell (Nat.le_refl g) _
        case measure => simp [intOf]; omega
      · have Hs : Hid (bringsTo xs N (k + 1) = bringsTo xs N k) := by
          show _ = _
          rw [Hst.out]; unfold bring; rw [if_neg (by rw [hlen4]; exact hd)]
        have Hf0 := Lib.hid (And.intro hown4 hb4')
        have hd' : (nthV xs k).1 < 0 ∨ (0 ≤ (nthV xs k).1 ∧ (N : Int) ≤ (nthV xs k).1) := by omega
        clear hown4 hb4' hb4 hs4 e0 e1 hlen4 hown hd
        rcases hd' with h | ⟨h, h'⟩
        all_goals
          go_wp2_with fail
          rw [Hew4.out]
          go_roundw
          case rel => exact ⟨k + 1, by omega, by go_num, by rw [Hs.out]; exact Hf0.out.1, Hf0.out.2⟩
          case measure => simp [intOf]; omega
    · have Hs : Hid (bringsOf xs N = bringsTo xs N k) := by
        show _ = _
        unfold bringsOf bringsTo; rw [List.take_of_length_le (by rw [Hn.out]; omega)]
      go_wp2_with fail
      go_ret
      rw [HN.out, Int.toNat_natCast, Hs.out, Hg0.out]
      exact ⟨_, rfl, hown, hb⟩
end

section
open Go.RowKit
set_option linter.unusedVariables false
set_option maxRecDepth 100000

theorem nth_replicate (N k : Nat) : nth (List.replicate N 0) k = 0 := by
  unfold nth
  by_cases h : k < N
  · simp [h]
  · simp [h]
theorem satI_zero {x : Int} (h : fitsI x = true) : satI 0 x = x := by unfold satI; rw [Int.zero_add, if_pos h]

/-- What the bringings of the first k days are again. -/
theorem bringsOf_visitsTo (q : List Int) (hq : ∀ x ∈ q, 0 ≤ x ∧ fitsI x = true) (k : Nat) (hk : k ≤ q.length) :
    bringsOf (visitsTo q k) q.length = q.take k ++ List.replicate (q.length - k) 0 := by
  induction k with
  | zero => simp [visitsTo, bringsOf]
  | succ k ih =>
    have ih := ih (by omega)
    have hm := hq _ (nth_mem (xs := q) (k := k) (by omega))
    have hlen : (q.take k ++ List.replicate (q.length - k) 0).length = q.length := by simp; omega
    have hnk : nth (q.take k ++ List.replicate (q.length - k) 0) k = 0 := by
      unfold nth
      rw [List.getD_eq_getElem?_getD, List.getElem?_append_right (by simp; omega)]
      have : k - (q.take k).length = 0 := by simp; omega
      rw [this, List.getElem?_replicate]
      split <;> rfl
    have hset : ∀ y : Int, (q.take k ++ List.replicate (q.length - k) 0).set k y = q.take k ++ [y] ++ List.replicate (q.length - (k + 1)) 0 := by
      intro y
      rw [List.set_append_right _ _ (by simp; omega)]
      have : k - (q.take k).length = 0 := by simp; omega
      rw [this, show q.length - k = (q.length - (k + 1)) + 1 by omega, List.replicate_succ]
      simp
    rw [visitsTo, take_succ_nth q k (by omega)]
    split
    · rename_i h
      unfold bringsOf at ih ⊢
      rw [List.foldl_append, ih]
      simp only [List.foldl_cons, List.foldl_nil, bring]
      rw [if_pos (by rw [hlen]; omega), Int.toNat_natCast, hnk, satI_zero hm.2, hset]
    · rename_i h
      rw [ih]
      have h0 : nth q k = 0 := by omega
      have := hset 0
      rw [h0, ← this]
      apply List.ext_getElem
      · simp
      · intro i h1 h2
        rw [List.getElem_set]
        split
        · rename_i e
          subst e
          have hn := hnk
          rw [nth_lt (by rw [hlen]; omega)] at hn
          exact hn
        · rfl
theorem brings_visits (q : List Int) (hq : q.all okQ = true) (h20 : q.length ≤ 20) : bringsOf (visitsOf q) (clipI (q.length : Int) 0 64).toNat = q := by
  have : (clipI (q.length : Int) 0 64).toNat = q.length := by unfold clipI; omega
  rw [this]
  unfold visitsOf
  rw [bringsOf_visitsTo q (fun x hx => ?_) q.length (Nat.le_refl _)]
  · simp
  · have := List.all_eq_true.1 hq x hx
    simp only [okQ, Bool.and_eq_true, decide_eq_true_eq] at this
    exact ⟨this.1, fitsI_iff.2 (by omega)⟩
theorem visitsTo_fits (q : List Int) (hq : q.all okQ = true) (k : Nat) (hk : k ≤ q.length) : ∀ p ∈ visitsTo q k, fitsI p.2 = true := by
  induction k with
  | zero => simp [visitsTo]
  | succ k ih =>
    unfold visitsTo
    have ih := ih (by omega)
    have := nth_okQ hq (k := k) (by omega)
    split
    · intro p hp
      rcases List.mem_append.1 hp with h | h
      · exact ih p h
      · simp at h; subst h; exact fitsI_iff.2 (by simp only []; omega)
    · exact ih
end

end Go.Proofs.YtnhcgpkcmfelkaaGreat
