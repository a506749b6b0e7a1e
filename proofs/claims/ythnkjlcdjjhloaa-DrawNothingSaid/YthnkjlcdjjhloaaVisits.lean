/-
  My own work: slices of api.Visit; stock.Visits and stock.Brings: their contracts.
-/
import Derived.Test.YthnkjlcdjjhloaaNum
import Derived.RegionTactic
import Derived.Deep.QuietTactic
import Derived.BigQuiet
import Derived.Deep.RegionHeld3
import Derived.StillTailTactics
import Derived.Deep.RegionWith
import Derived.Deep.RegionLaw
namespace Go.Proofs.Ythnkjlcdjjhloaa
open Go.RowKit
set_option linter.unusedVariables false

/-- The k-th visit. -/
def nthV (xs : List (Int × Int)) (k : Nat) : Int × Int := xs.getD k (0, 0)
theorem nthV_lt {xs : List (Int × Int)} {k : Nat} (h : k < xs.length) : nthV xs k = xs[k] := by simp [nthV, h]
theorem takeV_succ (xs : List (Int × Int)) (k : Nat) (h : k < xs.length) : xs.take (k + 1) = xs.take k ++ [nthV xs k] := by
  rw [nthV_lt h, List.take_succ_eq_append_getElem h]

/-- The slice value v reads as these visits (day, quantity). -/
def Vis (w : World) (v : Value) (xs : List (Int × Int)) : Prop :=
  ∃ (a : Option Addr) (c : Nat), v = .slice a xs.length c ∧ xs.length ≤ c ∧ c ≤ 9223372036854775807 ∧ ∀ i, i < xs.length → ∃ b o, a = some ⟨b, o, none⟩ ∧
    w.cell? ⟨b, o + i * 2, none⟩ = some (.int .i64 (nthV xs i).1) ∧ w.cell? ⟨b, o + i * 2 + 1, none⟩ = some (.int .i64 (nthV xs i).2)

theorem Vis.nil (w : World) : Vis w (.slice none 0 0) [] := ⟨none, 0, rfl, by simp, by simp, fun i hi => absurd hi (by simp)⟩
theorem Vis.below {w w' : World} {v : Value} {xs : List (Int × Int)} (h : Vis w v xs) (hb : Below w.heap.size w w') : Vis w' v xs := by
  obtain ⟨a, c, hv, h1, h2, hc⟩ := h
  refine ⟨a, c, hv, h1, h2, fun i hi => ?_⟩
  obtain ⟨b, o, ha, h0, h0'⟩ := hc i hi
  exact ⟨b, o, ha, cell_below hb h0, cell_below hb h0'⟩
theorem Vis.open {w : World} {v : Value} {xs : List (Int × Int)} (h : Vis w v xs) :
    ∃ (a : Option Addr) (n c : Nat), v = .slice a n c ∧ xs.length = n ∧ n ≤ 9223372036854775807 ∧ ∀ k, k < n → ∃ b o, a = some ⟨b, o, none⟩ ∧
      w.cell? ⟨b, o + k * 2, none⟩ = some (.int .i64 (nthV xs k).1) ∧ w.cell? ⟨b, o + k * 2 + 1, none⟩ = some (.int .i64 (nthV xs k).2) := by
  obtain ⟨a, c, rfl, h1, h2, hc⟩ := h
  exact ⟨a, xs.length, c, rfl, rfl, by omega, hc⟩

def visCells (xs : List (Int × Int)) : List Value := xs.flatMap fun p => [.int .i64 p.1, .int .i64 p.2]
theorem visCells_len (xs : List (Int × Int)) : (visCells xs).length = xs.length * 2 := by
  induction xs with
  | nil => rfl
  | cons x xs ih => simp only [visCells, List.flatMap_cons, List.length_append, List.length_cons, List.length_nil] at *; omega
theorem visCells_append (xs ys : List (Int × Int)) : visCells (xs ++ ys) = visCells xs ++ visCells ys := by simp [visCells]
theorem visCells_get (xs : List (Int × Int)) (i : Nat) (h : i < xs.length) : (visCells xs)[i * 2]? = some (.int .i64 (nthV xs i).1) ∧ (visCells xs)[i * 2 + 1]? = some (.int .i64 (nthV xs i).2) := by
  induction xs generalizing i with
  | nil => simp at h
  | cons x xs ih =>
    have e : visCells (x :: xs) = Value.int .i64 x.1 :: Value.int .i64 x.2 :: visCells xs := rfl
    cases i with
    | zero => rw [e]; exact ⟨rfl, rfl⟩
    | succ i =>
      have := ih i (by simpa using h)
      rw [e, show (i + 1) * 2 = i * 2 + 1 + 1 by omega]
      simpa [nthV] using this

/-- A slice of visits that the call itself has made. -/
def OwnV (w : World) (B : Nat) (v : Value) (xs : List (Int × Int)) : Prop := w.ownsRow B 62 2 v xs.length (visCells xs)
theorem OwnV.nil (w : World) (B : Nat) : OwnV w B (.slice none 0 0) [] := World.ownsRow_nil _ _ _ _
theorem OwnV.lt {w : World} {B : Nat} {v : Value} {xs : List (Int × Int)} (h : OwnV w B v xs) : ∀ k, v.ownBlock = some k → B ≤ k ∧ k < w.heap.size := World.ownsRow.lt h
theorem OwnV.mono {w : World} {B B' : Nat} {v : Value} {xs : List (Int × Int)} (h : OwnV w B v xs) (hB : B' ≤ B) : OwnV w B' v xs := by
  obtain ⟨h1, h2⟩ := h
  refine ⟨h1, ?_⟩
  rcases h2 with h2 | ⟨g, cap, cur, hv, hb, r⟩
  · exact .inl h2
  · exact .inr ⟨g, cap, cur, hv, by omega, r⟩
theorem OwnV.below {w w' : World} {B : Nat} {v : Value} {xs : List (Int × Int)} (h : OwnV w B v xs) (hb : Below w.heap.size w w') : OwnV w' B v xs :=
  World.ownsRow.kept (row := none) h (grownBy_below hb) (by cases v.ownBlock <;> simp)
theorem OwnV.vis {w : World} {B : Nat} {v : Value} {xs : List (Int × Int)} (h : OwnV w B v xs) : Vis w v xs := by
  have hc := fun (g : Nat) => World.ownsRow.cells h (g := g)
  obtain ⟨h1, h2⟩ := h
  rcases h2 with ⟨rfl, h0⟩ | ⟨g, cap, cur, rfl, _, _, h3, h4, _⟩
  · rw [List.length_eq_zero_iff.1 h0]
    exact Vis.nil w
  · refine ⟨some ⟨g, 0, none⟩, cap, rfl, h3, h4, fun i hi => ⟨g, 0, rfl, ?_⟩⟩
    obtain ⟨e1, e2⟩ := visCells_get xs i hi
    have h1 := hc g rfl _ _ e1
    have h2 := hc g rfl _ _ e2
    have ha : ∀ j, (⟨g, 0, none⟩ : Addr).add j = ⟨g, 0 + j, none⟩ := fun j => by unfold Addr.add; split <;> simp_all
    rw [ha] at h1 h2
    exact ⟨h1, by rw [Nat.add_assoc]; exact h2⟩

theorem info_visit : (Try.prog.info? 62).map (fun i => (i.zero, i.size, i.bytes)) = some (some (.agg #[.int .i64 0, .int .i64 0]), 2, 16) := by kernel_rfl

theorem cell_new2 (w : World) (v1 v2 : Value) (T : TypeId) : ∀ j u, ([v1, v2] : List Value)[j]? = some u → (w.alloc (.cells #[v1, v2] T)).cell? ((⟨w.heap.size, 0, none⟩ : Addr).add j) = some u := by
  intro j u hj
  match j, hj with
  | 0, hj => simp at hj; subst hj; simp [Addr.add, World.cell?_alloc_new]
  | 1, hj => simp at hj; subst hj; simp [Addr.add, World.cell?_alloc_new]

/-- 'v = append(v, Visit{d, q})'. -/
theorem wpList_pushV {ops : Array Oper} {rest : List Oper} {o : Oper} {a : Act} {Q : Exit → Act → World → Prop} (hgd : o.guard = none) (s x : Operand)
    (ho : o.op = .call { callee := .builtin .append, args := #[s, x], argTypes := #[51, 51] }) (w : World) (B : Nat) (v : Value) (xs : List (Int × Int)) (y z : Int) (hs : a.eval s = v)
    (hx : a.eval x = .slice (some ⟨w.heap.size, 0, none⟩) 1 1) (hown : OwnV w B v xs) (hlen : xs.length + 1 ≤ 8796093022208) (hB : B ≤ w.heap.size)
    (h : ∀ v' w', OwnV w' B v' (xs ++ [(y, z)]) → w.grownBy w' v.ownBlock → Below B w w' → wpList Try.prog ops Q rest (a.put o.dst v') w') :
    wpList Try.prog ops Q (o :: rest) a (w.alloc (.cells #[.int .i64 y, .int .i64 z] 62)) := by
  obtain ⟨i, hi, hz, hsz, hby⟩ := info_parts info_visit
  refine wpList_append_own _ hgd s x 51 ho B 62 i (.agg #[.int .i64 0, .int .i64 0]) 2 16 Try.underlying51 hi hz hsz hby rfl (by decide) v xs.length (visCells xs) hs (World.ownsRow.alloc hown _)
    ⟨w.heap.size, 0, none⟩ 1 1 [.int .i64 y, .int .i64 z] hx rfl (cell_new2 w _ _ _) (by intro u hu; simp at hu; rcases hu with rfl | rfl <;> rfl) (by simp only [maxLen]; omega) (by omega) (by simp; omega) ?_
  intro v' w' hown' hg _
  have hg' : w.grownBy w' v.ownBlock := grownBy_trans (World.grownBy_alloc w _ _) hg
  refine h v' w' (by simpa [OwnV, visCells_append, visCells] using hown') hg' ?_
  exact (Below.refl B w).grown hg' hB (fun k hk => (hown.lt k hk).1)

/-! ### stock.Visits -/
/-- The visits of the first k days of these bringings. -/
def visitsTo (q : List Int) : Nat → List (Int × Int)
  | 0 => []
  | k + 1 => if 0 < nth q k then visitsTo q k ++ [((k : Int), nth q k)] else visitsTo q k
def visitsOf (q : List Int) : List (Int × Int) := visitsTo q q.length
theorem visitsTo_len (q : List Int) (k : Nat) : (visitsTo q k).length ≤ k := by
  induction k with
  | zero => simp [visitsTo]
  | succ k ih =>
    unfold visitsTo
    split
    · simp; omega
    · omega

set_option maxHeartbeats 800000 in
theorem visits_is (qv : Value) (q : List Int) (w : World) (hq : Ints w qv q) (hlen : q.length ≤ 1048576) :
    Calls Try.prog 31 #[qv] w fun e w' => ∃ v, e = .returned v ∧ OwnV w' w.heap.size v (visitsOf q) ∧ Below w.heap.size w w' := by
  obtain ⟨a, n, c, rfl, hn, hmax, hcell⟩ := hq.open
  have Hn := Lib.hid hn
  have Hcell := Lib.hid hcell
  have hl : n ≤ 1048576 := by omega
  clear hn hcell hq hmax hlen
  go_enter Try.func31, Try.ntmps31
  go_wp2_with fail
  go_loopw [3, 8] (fun u i wr => ∃ (k : Nat) (v : Value), k ≤ n ∧ v = u ∧ i = .int .i64 k ∧ OwnV wr w.heap.size v (visitsTo q k) ∧ Below w.heap.size w wr) (fun _ i _ => n - (intOf i).toNat)
  case atStart => exact ⟨0, _, Nat.zero_le _, rfl, rfl, OwnV.nil _ _, Below.refl _ _⟩
  case round =>
    obtain ⟨k, v, hk, rfl, rfl, hown, hb⟩ := hrel
    by_cases hlt : k < n
    · obtain ⟨b, o, rfl, hc0⟩ := Hcell.out k hlt
      have hc := cell_below hb hc0
      clear hc0
      by_cases h0 : 0 < nth q k
      · have Hs : Hid (visitsTo q (k + 1) = visitsTo q k ++ [((k : Int), nth q k)]) := by show _ = _; rw [visitsTo, if_pos h0]
        go_wp2_with (at_builtin; refine wpList_pushV rfl _ _ rfl wr w.heap.size v (visitsTo q k) k (nth q k) rfl rfl hown (by have := visitsTo_len q k; omega) hb.size ?_)
        intro v' w5 hown5 g5 hb5
        rw [← Hs.out] at hown5
        have hb5' := hb.trans hb5
        clear hc g5 hb5
        go_wp2_with fail
        go_roundw
        case rel => exact ⟨k + 1, _, by omega, rfl, by go_num, hown5, hb5'⟩
        case measure => simp [intOf]; omega
      · have Hs : Hid (visitsTo q (k + 1) = visitsTo q k) := by show _ = _; rw [visitsTo, if_neg h0]
        go_wp2_with fail
        go_roundw
        case rel => exact ⟨k + 1, _, by omega, rfl, by go_num, by rw [Hs.out]; exact hown, hb⟩
        case measure => simp [intOf]; omega
    · have Hs : Hid (visitsOf q = visitsTo q k) := by show _ = _; unfold visitsOf; rw [Hn.out]; congr 1; omega
      go_wp2_with fail
      go_ret
      rw [Hs.out]
      exact ⟨_, rfl, hown, hb⟩
end Go.Proofs.Ythnkjlcdjjhloaa
