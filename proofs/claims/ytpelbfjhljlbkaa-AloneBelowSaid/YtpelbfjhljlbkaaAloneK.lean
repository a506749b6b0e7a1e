/-
  My own work: tranterref11.Customer, tranterlaw11.round, tranterref11.Prices: their contracts.
-/
import Derived.Test.YtpelbfjhljlbkaaGood4
import Derived.Test.YtpelbfjhljlbkaaLiveX
import Derived.Test.YtpelbfjhljlbkaaMPl
namespace Go.Proofs.Ytpelbfjhljlbkaa
open Go.RowKit
set_option linter.unusedVariables false
set_option maxRecDepth 100000

theorem wf_mk {n : Int} (h1 : -9223372036854775808 ≤ n) (h2 : n ≤ 9223372036854775807) : (Lit.int .i64 n).wf = true := by
  simp only [Lit.wf, Bool.and_eq_true, decide_eq_true_eq]
  exact ⟨h1, h2⟩
def CustOut (n : Nat) (w : World) (e : Ending) (w' : World) : Prop :=
  ∃ (X : Cu) (xv : Value), e = .returned (.agg #[.int .i64 X.kd, .int .i64 X.dm, xv, .int .i64 X.rt, .int .i64 X.sz, .int .i64 X.st, .int .i64 X.ru, .int .i64 X.hd]) ∧ GoodC n X ∧ Words w' xv X.ps ∧ Below w.heap.size w w'
theorem words_form {w : World} {v : Value} {xs : List Nat} (h : Words w v xs) : ∃ a n c, v = .slice a n c := by
  obtain ⟨a, c, rfl, _⟩ := h
  exact ⟨_, _, _, rfl⟩

set_option maxHeartbeats 1600000 in
theorem customer_is (C : Cu) (pv : Value) (n : Nat) (w : World) (hW : WfC C) (hp : Words w pv C.ps) (hn1 : 1 ≤ n) (hn6 : n ≤ 7) :
    Calls Try.prog 12 #[.agg #[.int .i64 C.kd, .int .i64 C.dm, pv, .int .i64 C.rt, .int .i64 C.sz, .int .i64 C.st, .int .i64 C.ru, .int .i64 C.hd], .int .i64 n] w (CustOut n w) := by
  obtain ⟨kd, dm, ps, rt, sz, st, ru, hd⟩ := C
  obtain ⟨pa, pn, pc, rfl⟩ := words_form hp
  obtain ⟨w1, ew, hb1, hsz1, hcu⟩ := box_cust w kd dm (.slice pa pn pc) rt sz st ru hd
  obtain ⟨w2, ew2⟩ : ∃ w2, w1.alloc (.cells #[.int .i64 0, .int .i64 0, .slice none 0 0, .int .i64 0, .int .i64 0, .int .i64 0, .int .i64 0, .int .i64 0] 24) = w2 := ⟨_, rfl⟩
  obtain ⟨w3, ew3⟩ : ∃ w3, w2.alloc (.cells #[.int .i64 kd, .int .i64 dm, .slice pa pn pc, .int .i64 rt, .int .i64 sz, .int .i64 st, .int .i64 ru, .int .i64 hd] 24) = w3 := ⟨_, rfl⟩
  have hb2 : Below w1.heap.size w1 w2 := by rw [← ew2]; exact belAlloc _ _
  have hb3 : Below w2.heap.size w2 w3 := by rw [← ew3]; exact belAlloc _ _
  have hs2 : w2.heap.size = w.heap.size + 1 + 1 := by rw [← ew2]; simp; omega
  have hs3 : w3.heap.size = w.heap.size + 1 + 1 + 1 := by rw [← ew3]; simp; omega
  obtain ⟨i0, i1, i2, i3, i4, i5, i6, i7⟩ := hcu.below hb2
  have hZ2 : Lies w2 w1.heap.size [.int .i64 0, .int .i64 0, .slice none 0 0, .int .i64 0, .int .i64 0, .int .i64 0, .int .i64 0, .int .i64 0] := by rw [← ew2]; exact Lies.new w1 _ _
  have hF2 : ∀ j, w2.frozen? ⟨w1.heap.size, j, none⟩ = false := fun j => by rw [← ew2]; simp [go_sem]
  have hL3 : Lies w3 w2.heap.size (cuV ⟨kd, dm, ps, rt, sz, st, ru, hd⟩ (.slice pa pn pc)) := by rw [← ew3]; exact Lies.new w2 _ _
  have hp3 : Words w3 (.slice pa pn pc) ps := ((hp.below hb1).below hb2).below hb3
  have hC3 : Custs w3 (.slice (some ⟨w2.heap.size, 0, none⟩) 1 1) [⟨kd, dm, ps, rt, sz, st, ru, hd⟩] :=
    ⟨some ⟨w2.heap.size, 0, none⟩, 1, rfl, by simp, by decide, fun i hi => ⟨w2.heap.size, 0, .slice pa pn pc, rfl, by
      have : i = 0 := by simpa using hi
      subst this
      exact cuAt_of hL3 hp3⟩⟩
  obtain ⟨w4, ew4, hb4, hsz4, hx4⟩ := box_inst w3 (.int .i64 ((n : Int) - 1)) (.int .i64 0) (.int .i64 0) (.int .i64 0) (.slice (some ⟨w2.heap.size, 0, none⟩) 1 1) (.slice none 0 0)
  have hgood := goodOwn_is ((n : Int) - 1) 0 0 0 (.slice (some ⟨w2.heap.size, 0, none⟩) 1 1) (.slice none 0 0) [⟨kd, dm, ps, rt, sz, st, ru, hd⟩] [] w4 (wf_mk (by omega) (by omega)) (by decide) (by decide) (by decide) (hC3.below hb4) (by intro C hC; simp at hC; subst hC; exact hW) (Grid.nil _) (by simp)
  have hdays : rnd ((n : Int) - 1) 1 7 = (n : Int) := by
    unfold rnd
    rw [if_neg (by omega)]
    have : ((n : Int) - 1) % (7 - 1 + 1) = (n : Int) - 1 := Int.emod_eq_of_lt (by omega) (by omega)
    rw [this]; omega
  obtain ⟨y0, y1, y2, y3, y4, y5⟩ := hx4
  have hb34 := bel2 hb3 hb4
  have HL2 := Lib.hid (hZ2.below hb34)
  have HF2 : Hid (∀ j, w4.frozen? ⟨w1.heap.size, j, none⟩ = false) := Lib.hid (fun j => frozen_below hb34 (by omega) (hF2 j))
  have HB : Hid (Below w.heap.size w w4) := Lib.hid (bel2 (bel2 hb1 hb2) hb34)
  have hw : wrap64 ((n : Int) - 1) = (n : Int) - 1 := wrap_id (by omega) (by omega)
  have Hew := Lib.hid ew
  have Hew2 := Lib.hid ew2
  have Hew3 := Lib.hid ew3
  have Hew4 := Lib.hid ew4
  have Hgood := Lib.hid hgood
  have Hdays := Lib.hid hdays
  have hsz1' : w1.heap.size = w.heap.size + 1 := hsz1
  rw [hsz1'] at HL2 HF2
  have hs4 : w4.heap.size = w.heap.size + 1 + 1 + 1 + 1 := by omega
  have hs3' : w3.heap.size = w2.heap.size + 1 := by omega
  rw [hs3'] at y0 y1 y2 y3 y4 y5
  have Hs := Lib.hid hs4
  clear ew ew2 ew3 ew4 hgood hdays hW hp hb1 hb2 hb3 hb4 hb34 hZ2 hF2 hL3 hp3 hC3 hs2 hs3 hs3' hcu hsz1 hsz1' hsz4 hs4
  go_enter Try.func12, Try.ntmps12
  go_upto_region 1 with (fail)
  rw [Hew.out, Hew2.out]
  go_upto_region 2 with (fail)
  rw [Hew3.out, Hew4.out]
  generalize eg : w.heap.size = g at *
  generalize w2.heap.size = g2 at *
  have Heg := Lib.hid eg
  clear eg
  go_wp2_with fail
  refine Hgood.out.mono ?_
  rintro e w5 ⟨days, ve, cp, ln, cv, dv, L, D, rfl, hdy, hLn, hgi, hC5, hG5, hb5⟩
  have hdn : days = n := by rw [Hdays.out] at hdy; omega
  obtain ⟨da, dn, dc, rfl, _, _, _⟩ := hG5.grid.open
  subst hdn
  have hL1 : L.length = 1 := by rw [hLn]; rfl
  obtain ⟨pvs, hpl, hrow, hps⟩ := hC5
  rw [hL1] at hrow
  obtain ⟨b, cc, rfl, hbl⟩ : ∃ b cc, cv = .slice (some ⟨b, 0, none⟩) 1 cc ∧ b < w5.heap.size := by
    rcases owns_form hrow with ⟨_, h0⟩ | ⟨b, cap, h1, _, _, _, h2⟩
    · omega
    · exact ⟨b, cap, h1, h2⟩
  have hG0 : GoodC days (nthC L 0) := hgi.good _ (nthC_mem (by omega))
  obtain ⟨hW0, _⟩ := hps 0 (by omega)
  have hcell : ∀ j u, j < 8 → (cuV (nthC L 0) (pvs.getD 0 undef))[j]? = some u → w5.cell? ⟨b, j, none⟩ = some u := fun j u hj hu => by
    obtain ⟨g', hg', hc⟩ := owns_cell hrow j u (by have := rowC_at L pvs 0 j (by omega) hj; rw [Nat.zero_mul, Nat.zero_add] at this; rw [this]; exact hu)
    simp only [Value.ownBlock, Option.some.injEq] at hg'
    subst hg'
    exact hc
  obtain ⟨X, hX⟩ : ∃ X, X = nthC L 0 := ⟨_, rfl⟩
  obtain ⟨xv, hxv⟩ : ∃ xv, xv = pvs.getD 0 undef := ⟨_, rfl⟩
  rw [← hX, ← hxv] at hcell
  rw [← hX] at hG0
  rw [← hX, ← hxv] at hW0
  obtain ⟨xkd, xdm, xps, xrt, xsz, xst, xru, xhd⟩ := X
  have e0 := hcell 0 _ (by decide) rfl
  have e1 := hcell 1 _ (by decide) rfl
  have e2 := hcell 2 _ (by decide) rfl
  have e3 := hcell 3 _ (by decide) rfl
  have e4 := hcell 4 _ (by decide) rfl
  have e5 := hcell 5 _ (by decide) rfl
  have e6 := hcell 6 _ (by decide) rfl
  have e7 := hcell 7 _ (by decide) rfl
  have hpat := hW0.words
  obtain ⟨xa, xn, xc, rfl⟩ := words_form hpat
  have HL5 := Lib.hid (HL2.out.below hb5)
  have l1 := HL5.out.lt
  have f0 := frozen_below hb5 (by rw [Hs.out]; omega) (HF2.out 0)
  have f1 := frozen_below hb5 (by rw [Hs.out]; omega) (HF2.out 1)
  have f2 := frozen_below hb5 (by rw [Hs.out]; omega) (HF2.out 2)
  have f3 := frozen_below hb5 (by rw [Hs.out]; omega) (HF2.out 3)
  have f4 := frozen_below hb5 (by rw [Hs.out]; omega) (HF2.out 4)
  have f5 := frozen_below hb5 (by rw [Hs.out]; omega) (HF2.out 5)
  have f6 := frozen_below hb5 (by rw [Hs.out]; omega) (HF2.out 6)
  have f7 := frozen_below hb5 (by rw [Hs.out]; omega) (HF2.out 7)
  obtain ⟨d0, d1, d2, d3, d4, d5, d6, d7⟩ := lies_cells HL5.out
  have HG0 := Lib.hid hG0
  have HB5 := Lib.hid (HB.out.trans (hb5.mono (by rw [Hs.out]; omega)))
  have hsz5 : g + 1 < w5.heap.size := l1
  have Hpat := Lib.hid hW0
  have hbs := Lib.hid hbl
  clear hgi hG5 hb5 hLn hdy hX hG0 hpat hW0 hcell hxv hps hrow hpl hL1
  have hfd : ∀ W : World, (Instr.field 58 (.agg #[.int .i64 (days : Int), .int .i64 ve, .int .i64 cp, .int .i64 ln, (.slice (some ⟨b, 0, none⟩) 1 cc), .slice da dn dc]) 4).run Try.prog W = .ok (.slice (some ⟨b, 0, none⟩) 1 cc) W := fun _ => by kernel_rfl
  go_wp2_with fail
  have q := set8 HL5.out (.int .i64 xkd) (.int .i64 xdm) (.slice xa xn xc) (.int .i64 xrt) (.int .i64 xsz) (.int .i64 xst) (.int .i64 xru) (.int .i64 xhd)
  have q0 := q.at 0 _ rfl
  have q1 := q.at 1 _ rfl
  have q2 := q.at 2 _ rfl
  have q3 := q.at 3 _ rfl
  have q4 := q.at 4 _ rfl
  have q5 := q.at 5 _ rfl
  have q6 := q.at 6 _ rfl
  have q7 := q.at 7 _ rfl
  refine bodyPost_ret (v := .agg #[.int .i64 xkd, .int .i64 xdm, .slice xa xn xc, .int .i64 xrt, .int .i64 xsz, .int .i64 xst, .int .i64 xru, .int .i64 xhd]) (by simp [results, Try.results12, go_sem, q0, q1, q2, q3, q4, q5, q6, q7]) rfl
    ⟨⟨xkd, xdm, xps, xrt, xsz, xst, xru, xhd⟩, .slice xa xn xc, rfl, HG0.out, ?_, ?_⟩
  · exact (Hpat.out.kept (grown8 _ _ _ _ _ _ _ _ _ _) (Hpat.out.not (by rw [Hs.out]; omega))).words
  · rw [Heg.out]
    exact HB5.out.trans (below8 _ _ _ _ _ _ _ _ _ _ (by omega))
end Go.Proofs.Ytpelbfjhljlbkaa
