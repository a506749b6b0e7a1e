/-
  My own work: append onto a slice of the call's own, whatever its elements; words; customers in a slice.
  My own work: the last step of every law: from 'the call returns true and turns nothing below the old heap' to the given row.
  My own work: slices of words.
  My own work: slices of words of the call's own; customers in a slice.
-/
import Derived.Test.YtnhcgpkcmfelkaaGreatBase
import Derived.Deep.AppendLies
import Derived.ProofKit
import Derived.OpenShut
import Derived.ChangeOld
import Derived.Below
import Derived.Carry
import Derived.Lib.SmallJoins
namespace Go.Proofs.YtnhcgpkcmfelkaaGreat
section
open Go.RowKit
set_option linter.unusedVariables false
set_option maxRecDepth 100000

theorem cells_newN (w : World) (ys : List Value) (T : TypeId) : ∀ j u, ys[j]? = some u → (w.alloc (.cells ys.toArray T)).cell? ((⟨w.heap.size, 0, none⟩ : Addr).add j) = some u := by
  intro j u hj
  have hl : j < ys.length := (List.getElem?_eq_some_iff.1 hj).1
  have ha : (⟨w.heap.size, 0, none⟩ : Addr).add j = ⟨w.heap.size, j, none⟩ := by unfold Addr.add; split <;> simp_all
  rw [ha]
  simp [World.cell?_alloc_new, hj]

theorem bel2 {a b c : World} (h : Below a.heap.size a b) (k : Below b.heap.size b c) : Below a.heap.size a c := h.trans (k.mono h.size)
theorem belDrew (w : World) : Below w.heap.size w w.drew := below_drewN (Below.refl _ w) 1
theorem belDrewN (w : World) (n : Nat) : Below w.heap.size w (w.drewN n) := below_drewN (Below.refl _ w) n
theorem belAlloc (w : World) (o : Obj) : Below w.heap.size w (w.alloc o) := (Below.refl _ _).alloc (Nat.le_refl _) _
/-- A block whose cells from 0 on are these. -/
def Lies (w : World) (b : Nat) (ys : List Value) : Prop := ∀ j u, ys[j]? = some u → w.cell? ⟨b, j, none⟩ = some u
theorem Lies.below {w w' : World} {b : Nat} {ys : List Value} (h : Lies w b ys) (hb : Below w.heap.size w w') : Lies w' b ys := fun j u hj => cell_below hb (h j u hj)
theorem Lies.new (w : World) (ys : List Value) (T : TypeId) : Lies (w.alloc (.cells ys.toArray T)) w.heap.size ys := fun j u hj => by
  have := cells_newN w ys T j u hj
  have ha : (⟨w.heap.size, 0, none⟩ : Addr).add j = ⟨w.heap.size, j, none⟩ := by unfold Addr.add; split <;> simp_all
  rwa [ha] at this

/-- One element of sz cells is appended: at the list of a plain region. W: the world there; the element lies in block b. -/
theorem wpList_pushN {ops : Array Oper} {rest : List Oper} {o : Oper} {a : Act} {Q : Exit → Act → World → Prop} (hgd : o.guard = none) (s x : Operand) (T E : TypeId) (z : Value) (sz bytes : Nat)
    (hT : Tryz.prog.underlying T = some (.slice E)) (hinfo : (Tryz.prog.info? E).map (fun i => (i.zero, i.size, i.bytes)) = some (some z, sz, bytes)) (hz : z.cells.size = sz) (hsz : 0 < sz) (hby : bytes ≤ 128)
    (ho : o.op = .call { callee := .builtin .append, args := #[s, x], argTypes := #[T, T] }) (W : World) (B : Nat) (v : Value) (n : Nat) (xs ys : List Value) (b : Nat) (hs : a.eval s = v)
    (hx : a.eval x = .slice (some ⟨b, 0, none⟩) 1 1) (hb : Lies W b ys) (hys : ys.length = sz) (h1 : ∀ u ∈ ys, u.oneCell' = true) (hown : W.ownsRow B E sz v n xs) (hlen : n + 1 ≤ 1000000000000) (hB : B ≤ W.heap.size)
    (h : ∀ g cap w', w'.ownsRow B E sz (.slice (some ⟨g, 0, none⟩) (n + 1) cap) (n + 1) (xs ++ ys) → W.grownBy w' v.ownBlock → Below B W w' → (v.ownBlock = some g ∨ g = W.heap.size) → B ≤ g → g < w'.heap.size →
      wpList Tryz.prog ops Q rest (a.put o.dst (.slice (some ⟨g, 0, none⟩) (n + 1) cap)) w') :
    wpList Tryz.prog ops Q (o :: rest) a W := by
  obtain ⟨i, hi, hz0, hz1, hz2⟩ := info_parts hinfo
  refine wpList_append_lies W hgd s x T ho B E i z sz bytes hT hi hz0 hz1 hz2 hz hsz v n xs hs hown ⟨b, 0, none⟩ 1 1 ys hx (by rw [hys]; omega) (fun j u hj => ?_) h1 (by omega) (by simp only [maxLen]; omega) (by
      have : (n + 1) * bytes ≤ 1000000000000 * 128 := Nat.mul_le_mul hlen hby
      omega) hB W.heap.size rfl ?_
  · have ha : (⟨b, 0, none⟩ : Addr).add j = ⟨b, j, none⟩ := by unfold Addr.add; split <;> simp_all
    rw [ha]
    exact hb j u hj
  · intro g cap w' hown' hg hat hlt
    refine h g cap w' hown' hg ((Below.refl B W).grown hg hB (fun k hk => (hown.lt k hk).1)) hat ?_ hlt
    rcases hat with e | rfl
    · exact (hown.lt g e).1
    · exact hB

/-- .. at a step of a region that draws its order. -/
theorem step_pushN {ops : Array Oper} {o : Oper} {a : Act} {K : Act → World → Prop} {Q : Exit → Act → World → Prop} {Z : Prop} (hgd : o.guard = none) (s x : Operand) (T E : TypeId) (z : Value) (sz bytes : Nat)
    (hT : Tryz.prog.underlying T = some (.slice E)) (hinfo : (Tryz.prog.info? E).map (fun i => (i.zero, i.size, i.bytes)) = some (some z, sz, bytes)) (hz : z.cells.size = sz) (hsz : 0 < sz) (hby : bytes ≤ 128)
    (ho : o.op = .call { callee := .builtin .append, args := #[s, x], argTypes := #[T, T] }) (W : World) (B : Nat) (v : Value) (n : Nat) (xs ys : List Value) (b : Nat) (hs : a.eval s = v)
    (hx : a.eval x = .slice (some ⟨b, 0, none⟩) 1 1) (hb : Lies W b ys) (hys : ys.length = sz) (h1 : ∀ u ∈ ys, u.oneCell' = true) (hown : W.ownsRow B E sz v n xs) (hlen : n + 1 ≤ 1000000000000) (hB : B ≤ W.heap.size)
    (h : ∀ g cap w', w'.ownsRow B E sz (.slice (some ⟨g, 0, none⟩) (n + 1) cap) (n + 1) (xs ++ ys) → W.grownBy w' v.ownBlock → Below B W w' → (v.ownBlock = some g ∨ g = W.heap.size) → B ≤ g → g < w'.heap.size →
      K (a.put o.dst (.slice (some ⟨g, 0, none⟩) (n + 1) cap)) w') :
    if Region.wanted o (yielded ops a.tmps) = true then Oper.wp Tryz.prog o a W K Q else Z := by
  obtain ⟨i, hi, hz0, hz1, hz2⟩ := info_parts hinfo
  refine step_append_lies W hgd s x T ho B E i z sz bytes hT hi hz0 hz1 hz2 hz hsz v n xs hs hown ⟨b, 0, none⟩ 1 1 ys hx (by rw [hys]; omega) (fun j u hj => ?_) h1 (by omega) (by simp only [maxLen]; omega) (by
      have : (n + 1) * bytes ≤ 1000000000000 * 128 := Nat.mul_le_mul hlen hby
      omega) hB W.heap.size rfl ?_
  · have ha : (⟨b, 0, none⟩ : Addr).add j = ⟨b, j, none⟩ := by unfold Addr.add; split <;> simp_all
    rw [ha]
    exact hb j u hj
  · intro g cap w' hown' hg hat hlt
    refine h g cap w' hown' hg ((Below.refl B W).grown hg hB (fun k hk => (hown.lt k hk).1)) hat ?_ hlt
    rcases hat with e | rfl
    · exact (hown.lt g e).1
    · exact hB

theorem step_wanted {c A B : Prop} [Decidable c] (hc : c) (h : A) : if c then A else B := by rw [if_pos hc]; exact h

/-- What a row of the call's own reads, cell by cell. -/
theorem owns_cell {w : World} {B : Nat} {E : TypeId} {sz n : Nat} {v : Value} {xs : List Value} (h : w.ownsRow B E sz v n xs) : ∀ j u, xs[j]? = some u → ∃ g, v.ownBlock = some g ∧ w.cell? ⟨g, j, none⟩ = some u := by
  intro j u hj
  have hc := fun (g : Nat) => h.cells (g := g)
  rcases h.2 with ⟨rfl, h0⟩ | ⟨g, cap, cur, rfl, _, _, h3, h4, h5, h6⟩
  · have h1 := h.1
    subst h0
    have h2 : xs = [] := by simpa using h1
    subst h2
    simp at hj
  · refine ⟨g, rfl, ?_⟩
    have := hc g rfl j u hj
    have ha : (⟨g, 0, none⟩ : Addr).add j = ⟨g, 0 + j, none⟩ := by unfold Addr.add; split <;> simp_all
    rw [ha, Nat.zero_add] at this
    exact this
theorem owns_form {w : World} {B : Nat} {E : TypeId} {sz n : Nat} {v : Value} {xs : List Value} (h : w.ownsRow B E sz v n xs) : (v = .slice none 0 0 ∧ n = 0) ∨ ∃ g cap, v = .slice (some ⟨g, 0, none⟩) n cap ∧ n ≤ cap ∧ cap ≤ 9223372036854775807 ∧ B ≤ g ∧ g < w.heap.size := by
  have hlt := h.lt
  rcases h.2 with ⟨rfl, h0⟩ | ⟨g, cap, cur, rfl, _, _, h3, h4, h5, h6⟩
  · exact .inl ⟨rfl, h0⟩
  · exact .inr ⟨g, cap, rfl, h3, h4, (hlt g rfl).1, (hlt g rfl).2⟩
theorem Lies.at {w : World} {b : Nat} {ys : List Value} (h : Lies w b ys) (j : Nat) (u : Value) (hj : ys[j]? = some u) : w.cell? ⟨b, j, none⟩ = some u := h j u hj
theorem Lies.lt {w : World} {b : Nat} {y : Value} {ys : List Value} (h : Lies w b (y :: ys)) : b < w.heap.size := World.block_lt_of_cell? w _ (h 0 y rfl)
theorem Lies.set {w : World} {b : Nat} {ys : List Value} (h : Lies w b ys) (j : Nat) (u : Value) (hj : j < ys.length) : Lies (w.setCell ⟨b, j, none⟩ u) b (ys.set j u) := by
  intro k v hk
  by_cases e : j = k
  · subst e
    rw [List.getElem?_set_self hj] at hk
    cases hk
    exact World.cell?_setCell_same _ _ _ (h j _ (List.getElem?_eq_getElem hj))
  · rw [List.getElem?_set_ne e] at hk
    rw [World.cell?_setCell_other _ _ _ _ (by intro e2; first | exact e (congrArg Addr.off e2) | exact e (congrArg Addr.off e2).symm)]
    exact h k v hk
theorem Lies.kept {w w' : World} {b : Nat} {ys : List Value} {r : Option Nat} (h : Lies w b ys) (hg : w.grownBy w' r) (hne : some b ≠ r) : Lies w' b ys := fun j u hj => hg.cell (h j u hj) hne
theorem Lies.other {w : World} {b : Nat} {ys : List Value} (h : Lies w b ys) (p : Addr) (u : Value) (hne : b ≠ p.block) : Lies (w.setCell p u) b ys := h.kept (grownBy_setCell w p u) (by simpa using hne)
/-- All eight cells are stored. -/
theorem set8 {w : World} {g : Nat} {v0 v1 v2 v3 v4 v5 v6 v7 : Value} (h : Lies w g [v0, v1, v2, v3, v4, v5, v6, v7]) (u0 u1 u2 u3 u4 u5 u6 u7 : Value) :
    Lies ((((((((w.setCell ⟨g, 0, none⟩ u0).setCell ⟨g, 1, none⟩ u1).setCell ⟨g, 2, none⟩ u2).setCell ⟨g, 3, none⟩ u3).setCell ⟨g, 4, none⟩ u4).setCell ⟨g, 5, none⟩ u5).setCell ⟨g, 6, none⟩ u6).setCell ⟨g, 7, none⟩ u7) g [u0, u1, u2, u3, u4, u5, u6, u7] :=
  (((((((h.set 0 u0 (by simp)).set 1 u1 (by simp)).set 2 u2 (by simp)).set 3 u3 (by simp)).set 4 u4 (by simp)).set 5 u5 (by simp)).set 6 u6 (by simp)).set 7 u7 (by simp)
theorem set6 {w : World} {g : Nat} {v0 v1 v2 v3 v4 v5 : Value} (h : Lies w g [v0, v1, v2, v3, v4, v5]) (u0 u1 u2 u3 u4 u5 : Value) :
    Lies ((((((w.setCell ⟨g, 0, none⟩ u0).setCell ⟨g, 1, none⟩ u1).setCell ⟨g, 2, none⟩ u2).setCell ⟨g, 3, none⟩ u3).setCell ⟨g, 4, none⟩ u4).setCell ⟨g, 5, none⟩ u5) g [u0, u1, u2, u3, u4, u5] :=
  (((((h.set 0 u0 (by simp)).set 1 u1 (by simp)).set 2 u2 (by simp)).set 3 u3 (by simp)).set 4 u4 (by simp)).set 5 u5 (by simp)
theorem set2 {w : World} {g : Nat} {v0 v1 : Value} (h : Lies w g [v0, v1]) (u0 u1 : Value) :
    Lies ((w.setCell ⟨g, 0, none⟩ u0).setCell ⟨g, 1, none⟩ u1) g [u0, u1] :=
  (h.set 0 u0 (by simp)).set 1 u1 (by simp)
theorem Lies.lower {B : Nat} {w w' : World} {b : Nat} {ys : List Value} (h : Lies w b ys) (hb : Below B w w') (hl : b < B) : Lies w' b ys := fun j u hj => cell_lt hb hl (h j u hj)
theorem grown8 (w : World) (g : Nat) (u0 u1 u2 u3 u4 u5 u6 u7 : Value) : w.grownBy ((((((((w.setCell ⟨g, 0, none⟩ u0).setCell ⟨g, 1, none⟩ u1).setCell ⟨g, 2, none⟩ u2).setCell ⟨g, 3, none⟩ u3).setCell ⟨g, 4, none⟩ u4).setCell ⟨g, 5, none⟩ u5).setCell ⟨g, 6, none⟩ u6).setCell ⟨g, 7, none⟩ u7) (some g) := by
  repeat (refine grownBy_trans ?_ (grownBy_setCell _ ⟨g, _, none⟩ _))
  exact ⟨rfl, rfl, rfl, Nat.le_refl _, fun _ _ _ => rfl⟩
theorem below8 {B : Nat} (w : World) (g : Nat) (u0 u1 u2 u3 u4 u5 u6 u7 : Value) (h : B ≤ g) : Below B w ((((((((w.setCell ⟨g, 0, none⟩ u0).setCell ⟨g, 1, none⟩ u1).setCell ⟨g, 2, none⟩ u2).setCell ⟨g, 3, none⟩ u3).setCell ⟨g, 4, none⟩ u4).setCell ⟨g, 5, none⟩ u5).setCell ⟨g, 6, none⟩ u6).setCell ⟨g, 7, none⟩ u7) := by
  repeat (refine Below.setCell ?_ (by exact h) _)
  exact Below.refl _ _
theorem grown6 (w : World) (g : Nat) (u0 u1 u2 u3 u4 u5 : Value) : w.grownBy ((((((w.setCell ⟨g, 0, none⟩ u0).setCell ⟨g, 1, none⟩ u1).setCell ⟨g, 2, none⟩ u2).setCell ⟨g, 3, none⟩ u3).setCell ⟨g, 4, none⟩ u4).setCell ⟨g, 5, none⟩ u5) (some g) := by
  repeat (refine grownBy_trans ?_ (grownBy_setCell _ ⟨g, _, none⟩ _))
  exact ⟨rfl, rfl, rfl, Nat.le_refl _, fun _ _ _ => rfl⟩
theorem below6 {B : Nat} (w : World) (g : Nat) (u0 u1 u2 u3 u4 u5 : Value) (h : B ≤ g) : Below B w ((((((w.setCell ⟨g, 0, none⟩ u0).setCell ⟨g, 1, none⟩ u1).setCell ⟨g, 2, none⟩ u2).setCell ⟨g, 3, none⟩ u3).setCell ⟨g, 4, none⟩ u4).setCell ⟨g, 5, none⟩ u5) := by
  repeat (refine Below.setCell ?_ (by exact h) _)
  exact Below.refl _ _
theorem grown2 (w : World) (g : Nat) (u0 u1 : Value) : w.grownBy ((w.setCell ⟨g, 0, none⟩ u0).setCell ⟨g, 1, none⟩ u1) (some g) := grownBy_trans (grownBy_setCell _ ⟨g, 0, none⟩ _) (grownBy_setCell _ ⟨g, 1, none⟩ _)
theorem below2 {B : Nat} (w : World) (g : Nat) (u0 u1 : Value) (h : B ≤ g) : Below B w ((w.setCell ⟨g, 0, none⟩ u0).setCell ⟨g, 1, none⟩ u1) := ((Below.refl B w).setCell (p := ⟨g, 0, none⟩) h _).setCell (p := ⟨g, 1, none⟩) h _
theorem owns_mono {w : World} {B B' : Nat} {E : TypeId} {sz n : Nat} {v : Value} {xs : List Value} (h : w.ownsRow B E sz v n xs) (hB : B' ≤ B) : w.ownsRow B' E sz v n xs := by
  obtain ⟨h1, h2⟩ := h
  refine ⟨h1, ?_⟩
  rcases h2 with h2 | ⟨g, cap, cur, hv, hb, r⟩
  · exact .inl h2
  · exact .inr ⟨g, cap, cur, hv, by omega, r⟩
end

section
open Go.ChangeShapes Go.WideShapes Go.ChangeAt Go.RowKit
set_option linter.unusedVariables false
set_option maxRecDepth 100000

theorem own : ownKnob Tryz.prog.godebug = none := by kernel_rfl
theorem laidOut : laidOutB Tryz.prog = true := by kernel_rfl

/-- All arguments at once read behind the call as they did. -/
theorem trodAll_below {H : Type} {enc : TypeId × Value → H} {P : Program} (hl : laidOutB P = true) {W W' : World} (hb : Below W.heap.size W W') :
    ∀ {ts : List TypeId} {vs : List Value} {ds : List (DataW H)} {p : List MemPlace}, (∀ t ∈ ts, P.readableRec t = true ∧ t < P.types.size) → DataW.TrodAll enc P W 0 (fun _ => true) true ts vs ds p → (∀ x ∈ p, x.block < W.heap.size) →
      DataW.TrodAll enc P W' 0 (fun b => decide (b < W.heap.size)) true ts vs ds p
  | [], _, _, _, _, h, _ => by
    obtain ⟨rfl, rfl, rfl⟩ := trodAll_nil h
    exact trodAll_mk0
  | t :: ts, _, _, _, ht, h, hlt => by
    obtain ⟨v, vs, d, ds, p, q, rfl, rfl, rfl, h1, h2⟩ := trodAll_cons h
    refine trodAll_cons_mk ?_ (trodAll_below hl hb (fun t h => ht t (List.mem_cons_of_mem _ h)) h2 (fun x hx => hlt x (List.mem_append_right _ hx)))
    exact Below.trod hl (ht t (List.mem_cons_self ..)).1 (ht t (List.mem_cons_self ..)).2 h1 hb (fun x hx => hlt x (List.mem_append_left _ hx))

theorem trodAll_len {H : Type} {enc : TypeId × Value → H} {P : Program} {W : World} {b : Nat} {sp : Nat → Bool} {hd : Bool} :
    ∀ {ts : List TypeId} {vs : List Value} {ds : List (DataW H)} {p : List MemPlace}, DataW.TrodAll enc P W b sp hd ts vs ds p → ds.length = ts.length
  | [], _, _, _, h => by
    obtain ⟨rfl, rfl, rfl⟩ := trodAll_nil h
    rfl
  | t :: ts, _, _, _, h => by
    obtain ⟨v, vs, d, ds, p, q, rfl, rfl, rfl, h1, h2⟩ := trodAll_cons h
    simp [trodAll_len h2]

/-- The closing of a law. -/
theorem law_post {H : Type} {enc : TypeId × Value → H} {f : Func} {s : ChangeSpec} {W W' : World} {args : Array Value} {ds : List (DataW H)} {p : List MemPlace}
    (hW' : DataW.Whole enc Tryz.prog f.params.toList s.vars false W args.toList ds [] p)
    (hA : DataW.TrodAll enc Tryz.prog W 0 (fun _ => true) true f.params.toList args.toList ds p)
    (hts : ∀ t ∈ f.params.toList, Tryz.prog.readableRec t = true ∧ t < Tryz.prog.types.size)
    (hres : f.resultTypes = #[4]) (hfn : s.fn H (ds ++ []) = { results := [.lit (.bool true)], args := ds }) (hvars : s.vars = [])
    (bel : Below W.heap.size W W') : s.post enc Tryz.prog f false true false false W args (.bool true) W' := by
  have hlt : ∀ x ∈ p, x.block < W.heap.size := fun x hx => hW'.lt x hx
  refine ⟨ds, [], p, [], p, [], hW', ?_, ?_, ?_, ?_, fun h => by cases h⟩
  · rw [hres, hfn]
    exact trodAll_mk1 (shut_bool Tryz.underlying4 _)
  · rw [hfn]
    exact trodAll_below laidOut bel hts hA hlt
  · rw [hfn, hvars]; rfl
  · exact bel.frame _

section
variable {H : Type} {enc : TypeId × Value → H} {w : World}

set_option maxRecDepth 100000 in
/-- An argument of type []int. -/
theorem open_sliceInts {r : Reach} {b0 : Nat} {v : Value} {d : DataW H} {p : List MemPlace} {held : Bool}
    (hv : Value.okWide Tryz.prog w r b0 26 v) (h : DataW.Trod enc Tryz.prog w 0 (fun _ => true) held 26 v d p) :
    ∃ xs : List Int, Ints w v xs ∧ (∀ x ∈ xs, (Lit.int .i64 x).wf = true) := by
  obtain ⟨a, len, cap, rfl⟩ := okWide_slice Tryz.underlying26 hv
  obtain ⟨fuel, hf⟩ := h
  rcases open_ints Tryz.underlying26 Tryz.underlying3 (by kernel_rfl) hf with ⟨hcs, _⟩ | ⟨x, l, c, zs, hcs, _, hl, hm, hz, _, hcell, hwz⟩
  · simp [Value.cells] at hcs
    obtain ⟨rfl, rfl, rfl⟩ := hcs
    exact ⟨[], Ints.nil _, by simp⟩
  · simp [Value.cells] at hcs
    obtain ⟨rfl, rfl, rfl⟩ := hcs
    have hz' : zs.length = cap := by simpa using hz
    have hl' : (zs.take len).length = len := by rw [List.length_take]; omega
    refine ⟨zs.take len, ⟨some x, cap, by rw [hl'], by omega, hm, fun i hi => ?_⟩, fun y hy => hwz y (List.mem_of_mem_take hy)⟩
    rw [hl'] at hi
    obtain ⟨b, off, rfl, hc⟩ := ints_at hcell (by omega)
    refine ⟨b, off, rfl, ?_⟩
    rw [nth_take hi, hc i (by omega)]
    rfl
end
end

section
open Go.ChangeShapes Go.WideShapes Go.ChangeAt Go.RowKit
set_option linter.unusedVariables false
set_option maxRecDepth 100000

/-- The k-th word (0 beyond the end): no rule of simp opens it. -/
def nthN (xs : List Nat) (k : Nat) : Nat := xs.getD k 0
theorem nthN_lt {xs : List Nat} {k : Nat} (h : k < xs.length) : nthN xs k = xs[k] := by simp [nthN, h]
theorem nthN_mem {xs : List Nat} {k : Nat} (h : k < xs.length) : nthN xs k ∈ xs := by rw [nthN_lt h]; exact List.getElem_mem h
theorem nthN_take {xs : List Nat} {k n : Nat} (h : k < n) : nthN (xs.take n) k = nthN xs k := by simp [nthN, h]

/-- The slice value v reads as the words xs. -/
def Words (w : World) (v : Value) (xs : List Nat) : Prop :=
  ∃ (a : Option Addr) (c : Nat), v = .slice a xs.length c ∧ xs.length ≤ c ∧ c ≤ 9223372036854775807 ∧ ∀ i, i < xs.length → ∃ b o, a = some ⟨b, o, none⟩ ∧ w.cell? ⟨b, o + i, none⟩ = some (.int .u64 (nthN xs i : Int))
theorem Words.nil (w : World) : Words w (.slice none 0 0) [] := ⟨none, 0, rfl, by simp, by simp, fun i hi => absurd hi (by simp)⟩
theorem Words.below {w w' : World} {v : Value} {xs : List Nat} (h : Words w v xs) (hb : Below w.heap.size w w') : Words w' v xs := by
  obtain ⟨a, c, hv, h1, h2, hc⟩ := h
  refine ⟨a, c, hv, h1, h2, fun i hi => ?_⟩
  obtain ⟨b, o, ha, h0⟩ := hc i hi
  exact ⟨b, o, ha, (hb.cell (p := ⟨b, o + i, none⟩) (World.block_lt_of_cell? w _ h0)).trans h0⟩
theorem Words.open {w : World} {v : Value} {xs : List Nat} (h : Words w v xs) :
    ∃ (a : Option Addr) (n c : Nat), v = .slice a n c ∧ xs.length = n ∧ n ≤ c ∧ c ≤ 9223372036854775807 ∧ ∀ k, k < n → ∃ b o, a = some ⟨b, o, none⟩ ∧ b < w.heap.size ∧ w.cell? ⟨b, o + k, none⟩ = some (.int .u64 (nthN xs k : Int)) := by
  obtain ⟨a, c, rfl, h1, h2, hc⟩ := h
  refine ⟨a, xs.length, c, rfl, rfl, h1, h2, fun k hk => ?_⟩
  obtain ⟨b, o, ha, h0⟩ := hc k hk
  exact ⟨b, o, ha, World.block_lt_of_cell? w _ h0, h0⟩
theorem Words.take {w : World} {a : Option Addr} {n c m : Nat} {xs : List Nat} (h : Words w (.slice a n c) xs) (hm : m ≤ n) : Words w (.slice a m c) (xs.take m) := by
  obtain ⟨a', c', h, h1, h2, hc⟩ := h
  simp only [Value.slice.injEq] at h
  obtain ⟨rfl, rfl, rfl⟩ := h
  have hl : (xs.take m).length = m := by rw [List.length_take]; omega
  refine ⟨a, c, by rw [hl], by omega, by omega, fun i hi => ?_⟩
  rw [hl] at hi
  rw [nthN_take hi]
  exact hc i (by omega)

section
variable {H : Type} {enc : TypeId × Value → H} {w : World}

/-- An argument of type []uint64. -/
theorem open_sliceWords {r : Reach} {b0 : Nat} {v : Value} {d : DataW H} {p : List MemPlace} {held : Bool}
    (hv : Value.okWide Tryz.prog w r b0 51 v) (h : DataW.Trod enc Tryz.prog w 0 (fun _ => true) held 51 v d p) :
    ∃ xs : List Nat, Words w v xs ∧ (∀ x ∈ xs, x < 18446744073709551616) := by
  obtain ⟨a, len, cap, rfl⟩ := okWide_slice Tryz.underlying51 hv
  obtain ⟨fuel, hf⟩ := h
  rcases open_ints Tryz.underlying51 Tryz.underlying71 (by kernel_rfl) hf with ⟨hcs, _⟩ | ⟨x, l, c, zs, hcs, _, hl, hm, hz, _, hcell, hwz⟩
  · simp [Value.cells] at hcs
    obtain ⟨rfl, rfl, rfl⟩ := hcs
    exact ⟨[], Words.nil _, by simp⟩
  · simp [Value.cells] at hcs
    obtain ⟨rfl, rfl, rfl⟩ := hcs
    have hz' : zs.length = cap := by simpa using hz
    have hl' : (zs.take len).length = len := by rw [List.length_take]; omega
    have hw : ∀ z ∈ zs, 0 ≤ z ∧ z < 18446744073709551616 := fun z hz => by
      have h := hwz z hz
      simp only [Lit.wf, Bool.and_eq_true, decide_eq_true_eq] at h
      obtain ⟨h0, h1⟩ := h
      have h0' : 0 ≤ z := h0
      have h1' : z ≤ 18446744073709551615 := h1
      omega
    refine ⟨(zs.take len).map Int.toNat, ⟨some x, cap, by rw [List.length_map, hl'], by rw [List.length_map]; omega, hm, fun i hi => ?_⟩, fun y hy => ?_⟩
    · rw [List.length_map, hl'] at hi
      obtain ⟨b, off, rfl, hc⟩ := ints_at hcell (by omega)
      refine ⟨b, off, rfl, ?_⟩
      have hi2 : i < zs.length := by omega
      have h3 := hc i (by omega)
      rw [h3]
      have h4 : nthN ((zs.take len).map Int.toNat) i = zs[i].toNat := by
        rw [nthN_lt (by rw [List.length_map, hl']; exact hi)]
        simp
      rw [h4]
      have h5 := (hw zs[i] (List.getElem_mem hi2)).1
      congr 2
      simp [List.getD, List.getElem?_eq_getElem hi2]
      omega
    · obtain ⟨z, hz, rfl⟩ := List.mem_map.1 hy
      have := hw z (List.mem_of_mem_take hz)
      omega
end
end

section
open Go.RowKit
set_option linter.unusedVariables false
set_option maxRecDepth 100000

theorem info_word : (Tryz.prog.info? 71).map (fun i => (i.zero, i.size, i.bytes)) = some (some (.int .u64 0), 1, 8) := by kernel_rfl
theorem info_cust : (Tryz.prog.info? 53).map (fun i => (i.zero, i.size, i.bytes)) = some (some (.agg #[.int .i64 0, .int .i64 0, .slice none 0 0, .int .i64 0, .int .i64 0, .int .i64 0, .int .i64 0, .int .i64 0]), 8, 80) := by kernel_rfl
theorem info_row : (Tryz.prog.info? 26).map (fun i => (i.zero, i.size, i.bytes)) = some (some (.slice none 0 0), 1, 24) := by kernel_rfl

def wordV (x : Nat) : Value := .int .u64 (x : Int)
/-- A slice of words of the call's own. -/
def OwnW (w : World) (B : Nat) (v : Value) (xs : List Nat) : Prop := w.ownsRow B 71 1 v xs.length (xs.map wordV)
theorem OwnW.nil (w : World) (B : Nat) : OwnW w B (.slice none 0 0) [] := World.ownsRow_nil _ _ _ _
theorem OwnW.words {w : World} {B : Nat} {v : Value} {xs : List Nat} (h : OwnW w B v xs) : Words w v xs := by
  rcases owns_form h with ⟨rfl, h0⟩ | ⟨g, cap, rfl, h1, h2, _, _⟩
  · rw [List.length_eq_zero_iff.1 h0]; exact Words.nil w
  · refine ⟨some ⟨g, 0, none⟩, cap, rfl, h1, h2, fun i hi => ⟨g, 0, rfl, ?_⟩⟩
    obtain ⟨g', hg', hc⟩ := owns_cell h i (wordV (nthN xs i)) (by rw [List.getElem?_map, List.getElem?_eq_getElem hi, nthN_lt hi]; rfl)
    simp only [Value.ownBlock, Option.some.injEq] at hg'
    subst hg'
    rw [Nat.zero_add]
    exact hc
theorem OwnW.lt {w : World} {B : Nat} {v : Value} {xs : List Nat} (h : OwnW w B v xs) : ∀ k, v.ownBlock = some k → B ≤ k ∧ k < w.heap.size := World.ownsRow.lt h
theorem OwnW.kept {w w' : World} {B : Nat} {v : Value} {xs : List Nat} {r : Option Nat} (h : OwnW w B v xs) (hg : w.grownBy w' r) (hne : v.ownBlock = none ∨ v.ownBlock ≠ r) : OwnW w' B v xs := World.ownsRow.kept h hg hne
theorem OwnW.below {w w' : World} {B : Nat} {v : Value} {xs : List Nat} (h : OwnW w B v xs) (hb : Below w.heap.size w w') : OwnW w' B v xs :=
  World.ownsRow.kept (row := none) h (grownBy_below hb) (by cases v.ownBlock <;> simp)
theorem OwnW.not {w : World} {B g : Nat} {v : Value} {xs : List Nat} (h : OwnW w B v xs) (hg : g < B) : v.ownBlock = none ∨ v.ownBlock ≠ some g := by
  cases hv : v.ownBlock with
  | none => exact .inl rfl
  | some k => exact .inr (by have := h.lt k hv; simp; omega)
theorem OwnW.not' {w : World} {B g : Nat} {v : Value} {xs : List Nat} (h : OwnW w B v xs) (hg : g < B) : some g ≠ v.ownBlock := by
  intro e
  have := h.lt g e.symm
  omega

theorem OwnW.one {w : World} {B : Nat} {v : Value} {xs : List Nat} (h : OwnW w B v xs) : v.oneCell' = true := by
  rcases owns_form h with ⟨rfl, _⟩ | ⟨g, cap, rfl, _⟩ <;> rfl
theorem OwnW.mono {w : World} {B B' : Nat} {v : Value} {xs : List Nat} (h : OwnW w B v xs) (hB : B' ≤ B) : OwnW w B' v xs := owns_mono h hB

/-- 'v = append(v, y)', v a slice of words of the call's own. -/
theorem wpList_pushW {ops : Array Oper} {rest : List Oper} {o : Oper} {a : Act} {Q : Exit → Act → World → Prop} (hgd : o.guard = none) (s x : Operand)
    (ho : o.op = .call { callee := .builtin .append, args := #[s, x], argTypes := #[51, 51] }) (w : World) (B : Nat) (v : Value) (xs : List Nat) (y : Nat) (hs : a.eval s = v)
    (hx : a.eval x = .slice (some ⟨w.heap.size, 0, none⟩) 1 1) (hown : OwnW w B v xs) (hlen : xs.length + 1 ≤ 1000000000000) (hB : B ≤ w.heap.size)
    (h : ∀ g c w', OwnW w' B (.slice (some ⟨g, 0, none⟩) (xs.length + 1) c) (xs ++ [y]) → w.grownBy w' v.ownBlock → Below B w w' → B ≤ g → g < w'.heap.size → wpList Tryz.prog ops Q rest (a.put o.dst (.slice (some ⟨g, 0, none⟩) (xs.length + 1) c)) w') :
    wpList Tryz.prog ops Q (o :: rest) a (w.alloc (.cells #[.int .u64 (y : Int)] 71)) := by
  have hown' : (w.alloc (.cells #[.int .u64 (y : Int)] 71)).ownsRow B 71 1 v xs.length (xs.map wordV) := World.ownsRow.alloc hown _
  refine wpList_pushN hgd s x 51 71 (.int .u64 0) 1 8 Tryz.underlying51 info_word rfl (by decide) (by decide) ho _ B v xs.length (xs.map wordV) [wordV y] w.heap.size hs hx (Lies.new w [wordV y] _) rfl
    (by intro u hu; simp at hu; subst hu; rfl) hown' hlen (by simp; omega) ?_
  intro g cap w' h1 h2 h3 h4 h5 h6
  have hg' : w.grownBy w' v.ownBlock := grownBy_trans (World.grownBy_alloc w _ _) h2
  refine h g cap w' (by simpa [OwnW] using h1) hg' ((Below.refl B w).grown hg' hB (fun k hk => (hown.lt k hk).1)) h5 h6

/-! ### customers -/
structure Cu where
  kd : Int
  dm : Int
  ps : List Nat
  rt : Int
  sz : Int
  st : Int
  ru : Int
  hd : Int
instance : Inhabited Cu := ⟨⟨0, 0, [], 0, 0, 0, 0, 0⟩⟩
def nthC (L : List Cu) (k : Nat) : Cu := L.getD k default
theorem nthC_lt {L : List Cu} {k : Nat} (h : k < L.length) : nthC L k = L[k] := by simp [nthC, h]
theorem nthC_mem {L : List Cu} {k : Nat} (h : k < L.length) : nthC L k ∈ L := by rw [nthC_lt h]; exact List.getElem_mem h
theorem nthC_append_left {L M : List Cu} {k : Nat} (h : k < L.length) : nthC (L ++ M) k = nthC L k := by simp [nthC, List.getElem?_append, h]
theorem nthC_append_here {L : List Cu} {y : Cu} : nthC (L ++ [y]) L.length = y := by simp [nthC]
theorem nthC_take {L : List Cu} {k n : Nat} (h : k < n) : nthC (L.take n) k = nthC L k := by simp [nthC, h]

/-- The eight cells of a customer. -/
def cuV (C : Cu) (pv : Value) : List Value := [.int .i64 C.kd, .int .i64 C.dm, pv, .int .i64 C.rt, .int .i64 C.sz, .int .i64 C.st, .int .i64 C.ru, .int .i64 C.hd]

theorem cuV_one {w : World} {B : Nat} {pv : Value} {C : Cu} (h : OwnW w B pv C.ps) : ∀ u ∈ cuV C pv, u.oneCell' = true := by
  intro u hu
  simp only [cuV, List.mem_cons, List.not_mem_nil, or_false] at hu
  rcases hu with rfl | rfl | rfl | rfl | rfl | rfl | rfl | rfl <;> first | rfl | exact h.one
/-- A customer lies in block b from p on. -/
structure CuAt (w : World) (b p : Nat) (C : Cu) (pv : Value) : Prop where
  c0 : w.cell? ⟨b, p, none⟩ = some (.int .i64 C.kd)
  c1 : w.cell? ⟨b, p + 1, none⟩ = some (.int .i64 C.dm)
  c2 : w.cell? ⟨b, p + 2, none⟩ = some pv
  c3 : w.cell? ⟨b, p + 3, none⟩ = some (.int .i64 C.rt)
  c4 : w.cell? ⟨b, p + 4, none⟩ = some (.int .i64 C.sz)
  c5 : w.cell? ⟨b, p + 5, none⟩ = some (.int .i64 C.st)
  c6 : w.cell? ⟨b, p + 6, none⟩ = some (.int .i64 C.ru)
  c7 : w.cell? ⟨b, p + 7, none⟩ = some (.int .i64 C.hd)
  pats : Words w pv C.ps
theorem CuAt.lt {w : World} {b p : Nat} {C : Cu} {pv : Value} (h : CuAt w b p C pv) : b < w.heap.size := World.block_lt_of_cell? w _ h.c0
theorem CuAt.below {w w' : World} {b p : Nat} {C : Cu} {pv : Value} (h : CuAt w b p C pv) (hb : Below w.heap.size w w') : CuAt w' b p C pv :=
  ⟨cell_below hb h.c0, cell_below hb h.c1, cell_below hb h.c2, cell_below hb h.c3, cell_below hb h.c4, cell_below hb h.c5, cell_below hb h.c6, cell_below hb h.c7, h.pats.below hb⟩

/-- The slice value v reads as the customers L. -/
def Custs (w : World) (v : Value) (L : List Cu) : Prop :=
  ∃ (a : Option Addr) (c : Nat), v = .slice a L.length c ∧ L.length ≤ c ∧ c ≤ 9223372036854775807 ∧ ∀ i, i < L.length → ∃ b o pv, a = some ⟨b, o, none⟩ ∧ CuAt w b (o + i * 8) (nthC L i) pv
theorem Custs.nil (w : World) : Custs w (.slice none 0 0) [] := ⟨none, 0, rfl, by simp, by simp, fun i hi => absurd hi (by simp)⟩
theorem Custs.below {w w' : World} {v : Value} {L : List Cu} (h : Custs w v L) (hb : Below w.heap.size w w') : Custs w' v L := by
  obtain ⟨a, c, hv, h1, h2, hc⟩ := h
  refine ⟨a, c, hv, h1, h2, fun i hi => ?_⟩
  obtain ⟨b, o, pv, ha, h0⟩ := hc i hi
  exact ⟨b, o, pv, ha, h0.below hb⟩
theorem Custs.open {w : World} {v : Value} {L : List Cu} (h : Custs w v L) :
    ∃ (a : Option Addr) (n c : Nat), v = .slice a n c ∧ L.length = n ∧ n ≤ 9223372036854775807 ∧ ∀ i, i < n → ∃ b o pv, a = some ⟨b, o, none⟩ ∧ b < w.heap.size ∧ CuAt w b (o + i * 8) (nthC L i) pv := by
  obtain ⟨a, c, rfl, h1, h2, hc⟩ := h
  refine ⟨a, L.length, c, rfl, rfl, by omega, fun i hi => ?_⟩
  obtain ⟨b, o, pv, ha, h0⟩ := hc i hi
  exact ⟨b, o, pv, ha, h0.lt, h0⟩

/-- The flat row of customers. -/
def rowC (L : List Cu) (pvs : List Value) : List Value := (List.range L.length).flatMap fun i => cuV (nthC L i) (pvs.getD i undef)
theorem cuV_len (C : Cu) (pv : Value) : (cuV C pv).length = 8 := rfl
theorem flat8 (f : Nat → List Value) (hf : ∀ i, (f i).length = 8) (n : Nat) : ((List.range n).flatMap f).length = 8 * n := by
  induction n with
  | zero => rfl
  | succ n ih => rw [List.range_succ, List.flatMap_append, List.length_append, ih]; simp [hf]; omega
theorem flat8_at (f : Nat → List Value) (hf : ∀ i, (f i).length = 8) (n i j : Nat) (hi : i < n) (hj : j < 8) : ((List.range n).flatMap f)[i * 8 + j]? = (f i)[j]? := by
  induction n with
  | zero => omega
  | succ n ih =>
    rw [List.range_succ, List.flatMap_append]
    by_cases h : i < n
    · rw [List.getElem?_append_left (by rw [flat8 f hf]; omega)]
      exact ih h
    · have : i = n := by omega
      subst this
      rw [List.getElem?_append_right (by rw [flat8 f hf]; omega), flat8 f hf]
      simp only [List.flatMap_cons, List.flatMap_nil, List.append_nil]
      congr 1
      omega
theorem rowC_at (L : List Cu) (pvs : List Value) (i j : Nat) (hi : i < L.length) (hj : j < 8) : (rowC L pvs)[i * 8 + j]? = (cuV (nthC L i) (pvs.getD i undef))[j]? := flat8_at _ (fun _ => rfl) _ _ _ hi hj
theorem rowC_snoc (L : List Cu) (pvs : List Value) (C : Cu) (pv : Value) (h : pvs.length = L.length) : rowC (L ++ [C]) (pvs ++ [pv]) = rowC L pvs ++ cuV C pv := by
  unfold rowC
  rw [List.length_append, List.length_singleton, List.range_succ, List.flatMap_append]
  congr 1
  · rw [List.flatMap_def, List.flatMap_def]
    congr 1
    apply List.map_congr_left
    intro i hi
    have hi' : i < L.length := by simpa using hi
    rw [nthC_append_left hi']
    simp [List.getD, List.getElem?_append, h, hi']
  · simp only [List.flatMap_cons, List.flatMap_nil, List.append_nil, nthC_append_here]
    simp [List.getD, ← h]

/-- A slice of customers of the call's own; each one's patterns lie elsewhere. -/
def OwnC (w : World) (B : Nat) (v : Value) (L : List Cu) : Prop :=
  ∃ pvs : List Value, pvs.length = L.length ∧ w.ownsRow B 53 8 v L.length (rowC L pvs) ∧ ∀ i, i < L.length → OwnW w B (pvs.getD i undef) (nthC L i).ps ∧ ∀ k, v.ownBlock = some k → (pvs.getD i undef).ownBlock ≠ some k
theorem OwnC.nil (w : World) (B : Nat) : OwnC w B (.slice none 0 0) [] := ⟨[], rfl, World.ownsRow_nil _ _ _ _, fun i hi => absurd hi (by simp)⟩
theorem OwnC.lt {w : World} {B : Nat} {v : Value} {L : List Cu} (h : OwnC w B v L) : ∀ k, v.ownBlock = some k → B ≤ k ∧ k < w.heap.size := by
  obtain ⟨pvs, _, h, _⟩ := h
  exact World.ownsRow.lt h
theorem OwnC.custs {w : World} {B : Nat} {v : Value} {L : List Cu} (h : OwnC w B v L) : Custs w v L := by
  obtain ⟨pvs, hl, h, hp⟩ := h
  rcases owns_form h with ⟨rfl, h0⟩ | ⟨g, cap, rfl, h1, h2, _, _⟩
  · rw [List.length_eq_zero_iff.1 h0]; exact Custs.nil w
  · refine ⟨some ⟨g, 0, none⟩, cap, rfl, h1, h2, fun i hi => ⟨g, 0, pvs.getD i undef, rfl, ?_⟩⟩
    have hc : ∀ j u, j < 8 → (cuV (nthC L i) (pvs.getD i undef))[j]? = some u → w.cell? ⟨g, 0 + i * 8 + j, none⟩ = some u := fun j u hj hu => by
      obtain ⟨g', hg', hc⟩ := owns_cell h (i * 8 + j) u (by rw [rowC_at L pvs i j hi hj]; exact hu)
      simp only [Value.ownBlock, Option.some.injEq] at hg'
      subst hg'
      rw [show 0 + i * 8 + j = i * 8 + j by omega]
      exact hc
    exact ⟨hc 0 _ (by decide) rfl, hc 1 _ (by decide) rfl, hc 2 _ (by decide) rfl, hc 3 _ (by decide) rfl, hc 4 _ (by decide) rfl, hc 5 _ (by decide) rfl, hc 6 _ (by decide) rfl, hc 7 _ (by decide) rfl, (hp i hi).1.words⟩
theorem OwnC.kept {w w' : World} {B : Nat} {v : Value} {L : List Cu} {r : Option Nat} (h : OwnC w B v L) (hg : w.grownBy w' r) (hr : ∀ k, r = some k → k < B) : OwnC w' B v L := by
  have hlt := h.lt
  obtain ⟨pvs, hl, h, hp⟩ := h
  refine ⟨pvs, hl, World.ownsRow.kept h hg ?_, fun i hi => ⟨(hp i hi).1.kept hg ?_, (hp i hi).2⟩⟩
  · cases hv : v.ownBlock with
    | none => exact .inl rfl
    | some k => exact .inr (fun e => by have := hr k e.symm; have := (hlt k hv).1; omega)
  · cases hv : (pvs.getD i undef).ownBlock with
    | none => exact .inl rfl
    | some k => exact .inr (fun e => by have := hr k e.symm; have := ((hp i hi).1.lt k hv).1; omega)
theorem OwnC.below {w w' : World} {B : Nat} {v : Value} {L : List Cu} (h : OwnC w B v L) (hb : Below w.heap.size w w') : OwnC w' B v L := h.kept (r := none) (grownBy_below hb) (by simp)
/-- One customer more: what stands behind the append. -/
theorem OwnC.push {W w' : World} {B : Nat} {v : Value} {L : List Cu} {C : Cu} {pv : Value} {g cap : Nat} {pvs : List Value} (hl : pvs.length = L.length) (hp : ∀ i, i < L.length → OwnW W B (pvs.getD i undef) (nthC L i).ps ∧ ∀ k, v.ownBlock = some k → (pvs.getD i undef).ownBlock ≠ some k)
    (hw : OwnW W B pv C.ps) (hne : ∀ k, v.ownBlock = some k → pv.ownBlock ≠ some k) (h : w'.ownsRow B 53 8 (.slice (some ⟨g, 0, none⟩) (L.length + 1) cap) (L.length + 1) (rowC L pvs ++ cuV C pv))
    (hg : W.grownBy w' v.ownBlock) (hat : v.ownBlock = some g ∨ g = W.heap.size) : OwnC w' B (.slice (some ⟨g, 0, none⟩) (L.length + 1) cap) (L ++ [C]) := by
  refine ⟨pvs ++ [pv], by simp [hl], by rw [rowC_snoc L pvs C pv hl]; simpa using h, fun i hi => ?_⟩
  have key : ∀ (x : Value) (ps : List Nat), OwnW W B x ps → (∀ k, v.ownBlock = some k → x.ownBlock ≠ some k) → OwnW w' B x ps ∧ ∀ k, (Value.slice (some ⟨g, 0, none⟩) (L.length + 1) cap).ownBlock = some k → x.ownBlock ≠ some k := by
    intro x ps hx hxn
    refine ⟨hx.kept hg ?_, fun k hk e => ?_⟩
    · cases hv : v.ownBlock with
      | none => cases x.ownBlock <;> simp
      | some k => exact .inr (hxn k hv)
    · simp only [Value.ownBlock, Option.some.injEq] at hk
      subst hk
      rcases hat with hat | rfl
      · exact hxn g hat e
      · have := (hx.lt _ e).2
        omega
  rw [List.length_append, List.length_singleton] at hi
  by_cases h' : i < L.length
  · rw [nthC_append_left h']
    have e : (pvs ++ [pv]).getD i undef = pvs.getD i undef := by simp [List.getD, List.getElem?_append, hl, h']
    rw [e]
    exact key _ _ (hp i h').1 (hp i h').2
  · have : i = L.length := by omega
    subst this
    rw [nthC_append_here]
    have e : (pvs ++ [pv]).getD L.length undef = pv := by simp [List.getD, ← hl]
    rw [e]
    exact key _ _ hw hne
end

end Go.Proofs.YtnhcgpkcmfelkaaGreat
