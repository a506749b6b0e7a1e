/-
  My own work: a customer that lies in a block of its own; the box of a Customer parameter as an opaque world.
-/
import Derived.Test.YthilfibgpobcjaaBase
namespace Go.Proofs.Ythilfibgpobcjaa
open Go.RowKit
set_option linter.unusedVariables false

/-- A customer lies in block g. -/
structure IsCust (w : World) (g : Nat) (kd dm : Int) (pt : Value) (rt sz st ru hd : Int) : Prop where
  c0 : w.cell? ⟨g, 0, none⟩ = some (.int .i64 kd)
  c1 : w.cell? ⟨g, 1, none⟩ = some (.int .i64 dm)
  c2 : w.cell? ⟨g, 2, none⟩ = some pt
  c3 : w.cell? ⟨g, 3, none⟩ = some (.int .i64 rt)
  c4 : w.cell? ⟨g, 4, none⟩ = some (.int .i64 sz)
  c5 : w.cell? ⟨g, 5, none⟩ = some (.int .i64 st)
  c6 : w.cell? ⟨g, 6, none⟩ = some (.int .i64 ru)
  c7 : w.cell? ⟨g, 7, none⟩ = some (.int .i64 hd)

theorem IsCust.lt {w : World} {g : Nat} {kd dm : Int} {pt : Value} {rt sz st ru hd : Int} (h : IsCust w g kd dm pt rt sz st ru hd) : g < w.heap.size := World.block_lt_of_cell? w _ h.c0
theorem IsCust.kept {w w' : World} {g : Nat} {kd dm : Int} {pt : Value} {rt sz st ru hd : Int} {row : Option Nat} (h : IsCust w g kd dm pt rt sz st ru hd) (hg : w.grownBy w' row) (hne : some g ≠ row) : IsCust w' g kd dm pt rt sz st ru hd :=
  ⟨hg.cell h.c0 hne, hg.cell h.c1 hne, hg.cell h.c2 hne, hg.cell h.c3 hne, hg.cell h.c4 hne, hg.cell h.c5 hne, hg.cell h.c6 hne, hg.cell h.c7 hne⟩
theorem IsCust.below {w w' : World} {g : Nat} {kd dm : Int} {pt : Value} {rt sz st ru hd : Int} (h : IsCust w g kd dm pt rt sz st ru hd) (hb : Below w.heap.size w w') : IsCust w' g kd dm pt rt sz st ru hd :=
  h.kept (row := none) (grownBy_below hb) (by simp)

theorem box_cust (w : World) (kd dm : Int) (pt : Value) (rt sz st ru hd : Int) :
    ∃ w1, w.alloc (.cells #[.int .i64 kd, .int .i64 dm, pt, .int .i64 rt, .int .i64 sz, .int .i64 st, .int .i64 ru, .int .i64 hd] 60) = w1 ∧ Below w.heap.size w w1 ∧ w1.heap.size = w.heap.size + 1 ∧ IsCust w1 w.heap.size kd dm pt rt sz st ru hd :=
  ⟨_, rfl, (Below.refl _ _).alloc (Nat.le_refl _) _, by simp, ⟨by simp [go_sem], by simp [go_sem], by simp [go_sem], by simp [go_sem], by simp [go_sem], by simp [go_sem], by simp [go_sem], by simp [go_sem]⟩⟩
end Go.Proofs.Ythilfibgpobcjaa
