/-
  My own work: tranterref06.round, good: their contracts.
-/
import Derived.Test.YtpelbfjhljlbkaaMOwn
import Derived.Test.YtpelbfjhljlbkaaMNum
import Derived.Test.YtpelbfjhljlbkaaMDays
import Derived.Deep.RegionHeld3
import Derived.Deep.CutBlock
namespace Go.Proofs.Ytpelbfjhljlbkaa
open Go.RowKit
set_option linter.unusedVariables false
set_option maxRecDepth 100000

theorem round06_is (n l m : Int) (w : World) (hn : (Lit.int .i64 n).wf = true) (hl : 0 ≤ l) (hlm : l ≤ m) (hm : m ≤ 1099511627776) :
    Calls Try.prog 61 #[.int .i64 n, .int .i64 l, .int .i64 m] w fun e w' => e = .returned (.int .i64 (rnd n l m)) ∧ w = w' := by
  by_cases h : n < 0
  · go_enter Try.func61, Try.ntmps61
    go_wp2_with fail
    go_ret
    rw [← rnd_neg n l m hn h hl hlm hm]
    exact ⟨rfl, rfl⟩
  · go_enter Try.func61, Try.ntmps61
    go_wp2_with fail
    go_ret
    rw [← rnd_pos n l m (by omega) hl hlm hm]
    exact ⟨rfl, rfl⟩

/-- A customer of an instance that may be, with small numbers, for so many days. -/
def GoodC (days : Nat) (C : Cu) : Prop :=
  (C.kd = 2 ∧ C.dm = 0 ∧ C.ps = [] ∧ 0 ≤ C.rt ∧ C.rt ≤ 9 ∧ 1 ≤ C.sz ∧ C.sz ≤ 30 ∧ 0 ≤ C.st ∧ C.st ≤ C.sz ∧ (C.ru = 1 ∨ C.ru = 2) ∧ 0 ≤ C.hd ∧ C.hd ≤ 4) ∨
  (C.kd = 1 ∧ 1 ≤ C.dm ∧ C.dm ≤ 15 ∧ C.rt = 0 ∧ C.sz = 0 ∧ C.st = 0 ∧ C.ru = 0 ∧ C.hd = 0 ∧ 1 ≤ C.ps.length ∧ C.ps.length ≤ 4 ∧ ∀ p ∈ C.ps, p < 2 ^ days)

/-- What good answers. -/
def GoodOut (days : Nat) (w : World) (e : Ending) (w' : World) : Prop :=
  ∃ C pv, e = .returned (.agg #[.int .i64 C.kd, .int .i64 C.dm, pv, .int .i64 C.rt, .int .i64 C.sz, .int .i64 C.st, .int .i64 C.ru, .int .i64 C.hd]) ∧ GoodC days C ∧ OwnW w' w.heap.size pv C.ps ∧ Below w.heap.size w w'

theorem two_pow_succ (d : Nat) : (2 : Nat) ^ (d + 1) = 2 ^ d + 2 ^ d := by rw [Nat.pow_succ]; omega
theorem bit_below {s d : Nat} (h : s < 2 ^ d) : s.testBit d = false := Nat.testBit_lt_two_pow h
theorem with_below {s d : Nat} (h : s < 2 ^ d) : withN s (d : Int) < 2 ^ (d + 1) := by
  unfold withN
  have h2 := two_pow_succ d
  split
  · exact Nat.or_lt_two_pow (by omega) (by rw [Int.toNat_natCast]; have := Nat.two_pow_pos d; omega)
  · omega

theorem cust_lies {w : World} {g : Nat} {kd dm : Int} {pt : Value} {rt sz st ru hd : Int} (h : IsCust w g kd dm pt rt sz st ru hd) : Lies w g [.int .i64 kd, .int .i64 dm, pt, .int .i64 rt, .int .i64 sz, .int .i64 st, .int .i64 ru, .int .i64 hd] := by
  intro j u hj
  have hl : j < 8 := (List.getElem?_eq_some_iff.1 hj).1
  match j, hl with
  | 0, _ => cases hj; exact h.c0
  | 1, _ => cases hj; exact h.c1
  | 2, _ => cases hj; exact h.c2
  | 3, _ => cases hj; exact h.c3
  | 4, _ => cases hj; exact h.c4
  | 5, _ => cases hj; exact h.c5
  | 6, _ => cases hj; exact h.c6
  | 7, _ => cases hj; exact h.c7

set_option maxRecDepth 100000 in
set_option maxHeartbeats 1600000 in
theorem goodTank_is (C : Cu) (pv : Value) (days : Nat) (w : World) (h0 : (Lit.int .i64 C.kd).wf = true) (h3 : (Lit.int .i64 C.rt).wf = true) (h4 : (Lit.int .i64 C.sz).wf = true) (h5 : (Lit.int .i64 C.st).wf = true) (h6 : (Lit.int .i64 C.ru).wf = true) (h7 : (Lit.int .i64 C.hd).wf = true) (hk : C.kd.tmod 2 = 0) :
    Calls Try.prog 62 #[.agg #[.int .i64 C.kd, .int .i64 C.dm, pv, .int .i64 C.rt, .int .i64 C.sz, .int .i64 C.st, .int .i64 C.ru, .int .i64 C.hd], .int .i64 days] w (GoodOut days w) := by
  obtain ⟨kd, dm, ps, rt, sz, st, ru, hd⟩ := C
  simp only at *
  obtain ⟨w1, ew, hb1, hsz1, hcu⟩ := box_cust w kd dm pv rt sz st ru hd
  obtain ⟨w2, ew2, hb2, hsz2, hcu2⟩ := box_cust w1 0 0 (.slice none 0 0) 0 0 0 0 0
  have hcu := hcu.below hb2
  have hk' : (kd.tmod 2 == 0) = true := by simpa using hk
  have Hew := Lib.hid ew
  have Hew2 := Lib.hid ew2
  have l0 := hcu.lt
  obtain ⟨c0, c1, c2, c3, c4, c5, c6, c7⟩ := hcu
  rw [hsz1] at hcu2
  have l1 := hcu2.lt
  have HL : Hid (Lies w2 (w.heap.size + 1) [.int .i64 0, .int .i64 0, .slice none 0 0, .int .i64 0, .int .i64 0, .int .i64 0, .int .i64 0, .int .i64 0]) := Lib.hid (cust_lies hcu2)
  obtain ⟨d0, d1, d2, d3, d4, d5, d6, d7⟩ := hcu2
  have hb := Lib.hid (hb1.trans (hb2.mono hb1.size))
  have hF : Hid (∀ j, w2.frozen? ⟨w.heap.size + 1, j, none⟩ = false) := Lib.hid (fun j => by rw [← ew2, ← hsz1]; simp [go_sem])
  have f0 := hF.out 0
  have f1 := hF.out 1
  have f2 := hF.out 2
  have f3 := hF.out 3
  have f4 := hF.out 4
  have f5 := hF.out 5
  have f6 := hF.out 6
  have f7 := hF.out 7
  have Hsz2 := Lib.hid (show w2.heap.size = w.heap.size + 1 + 1 by omega)
  clear ew ew2 hk hsz1 hsz2 hb1 hb2
  go_enter Try.func62, Try.ntmps62
  go_upto_region 1 with (fail)
  rw [Hew.out, Hew2.out]
  generalize eg : w.heap.size = g at *
  have Heg := Lib.hid eg
  clear eg
  go_wp2_with fail
  go_region_held3 (fun w' => w'.cell? ⟨g, 3, none⟩ = some (.int .i64 rt) ∧ w'.cell? ⟨g, 4, none⟩ = some (.int .i64 sz) ∧ w'.cell? ⟨g, 6, none⟩ = some (.int .i64 ru) ∧ w'.cell? ⟨g, 7, none⟩ = some (.int .i64 hd)) (go_keep)
    (first | (go_at_call 61; refine (round06_is _ _ _ _ ?_ ?_ ?_ ?_).mono ?_; assumption; decide; decide; decide; rintro e w' ⟨rfl, rfl⟩))
  all_goals
    have hbd := rnd_bd sz 1 30 (by decide)
    obtain ⟨hbd1, hbd2⟩ := hbd
    go_wp2_with fail
    refine (round06_is st 0 (rnd sz 1 30) _ h5 (by decide) (by omega) (by omega)).mono ?_
    rintro e w' ⟨rfl, rfl⟩
    go_wp2_with fail
    have q := set8 HL.out (.int .i64 2) (.int .i64 0) (.slice none 0 0) (.int .i64 (rnd rt 0 9)) (.int .i64 (rnd sz 1 30)) (.int .i64 (rnd st 0 (rnd sz 1 30))) (.int .i64 (rnd ru 1 2)) (.int .i64 (rnd hd 0 4))
    have q0 := q.at 0 _ rfl
    have q1 := q.at 1 _ rfl
    have q2 := q.at 2 _ rfl
    have q3 := q.at 3 _ rfl
    have q4 := q.at 4 _ rfl
    have q5 := q.at 5 _ rfl
    have q6 := q.at 6 _ rfl
    have q7 := q.at 7 _ rfl
    have r1 := rnd_bd rt 0 9 (by decide)
    have r2 := rnd_bd st 0 (rnd sz 1 30) (by omega)
    have r3 := rnd_bd ru 1 2 (by decide)
    have r4 := rnd_bd hd 0 4 (by decide)
    refine bodyPost_ret (v := .agg #[.int .i64 2, .int .i64 0, .slice none 0 0, .int .i64 (rnd rt 0 9), .int .i64 (rnd sz 1 30), .int .i64 (rnd st 0 (rnd sz 1 30)), .int .i64 (rnd ru 1 2), .int .i64 (rnd hd 0 4)]) (by simp [results, Try.results62, go_sem, q0, q1, q2, q3, q4, q5, q6, q7, l1]) rfl
      ⟨⟨2, 0, [], rnd rt 0 9, rnd sz 1 30, rnd st 0 (rnd sz 1 30), rnd ru 1 2, rnd hd 0 4⟩, .slice none 0 0, rfl, .inl ⟨rfl, rfl, rfl, by simp; omega, by simp; omega, by simp; omega, by simp; omega, by simp; omega, by simp; omega, by simp; omega, by simp; omega, by simp; omega⟩, OwnW.nil _ _, ?_⟩
    rw [Heg.out]
    refine hb.out.trans ?_
    refine Below.drew (Below.alloc ?_ (by simp; omega) _)
    repeat (refine Below.setCell ?_ (by simp) _)
    exact Below.refl _ _
end Go.Proofs.Ytpelbfjhljlbkaa
