/- Walks through the functions that the law reaches: part D7. -/
import Derived.Test.YtmlfcopllfdjfaaGreatD6
namespace Go.Proofs.YtmlfcopllfdjfaaGreat.Am
open Dn

set_option maxRecDepth 100000
set_option linter.unusedSimpArgs false

theorem new_spec (h : AH) : wF E 14 [.i .i64 0, .i .i64 2] h fun v h' => ∃ kid, v = .tp [.p kid 0, .i .i64 0] ∧ Grow h h' ∧ h.nx ≤ kid ∧ kid < h'.nx ∧ hloadO (h'.o.get kid) 0 1 = some [.i .i64 0] ∧ hloadO (h'.o.get kid) 1 1 = some [.i .i64 2] := by
  refine enter (af := f14) rfl rfl rfl ?_
  simp -implicitDefEqProofs only [Nat.reduceEqDiff, Nat.reduceLT, Nat.reduceBEq, reduceCtorEq, Nat.reduceAdd, Nat.reduceMod, Nat.reduceMul, Nat.reduceLeDiff, Nat.reduceSub, Int.reduceLT, Int.reduceLE, Int.reduceEq, Int.reduceNe, RR0, RR1, RR2, RR3, RR4, RR5, RR6, cond_true, cond_false, if_true, if_false, beq_self_eq_true, List.length_cons, List.length_nil, List.append_nil, List.nil_append, List.cons_append, List.take, List.drop, List.take_zero, List.drop_zero, Option.map_some, List.head?_cons, RE hE, hE, f14]
  refine enter (af := f45) rfl rfl rfl ?_
  simp -implicitDefEqProofs only [Nat.reduceEqDiff, Nat.reduceLT, Nat.reduceBEq, reduceCtorEq, Nat.reduceAdd, Nat.reduceMod, Nat.reduceMul, Nat.reduceLeDiff, Nat.reduceSub, Int.reduceLT, Int.reduceLE, Int.reduceEq, Int.reduceNe, RR0, RR1, RR2, RR3, RR4, RR5, RR6, cond_true, cond_false, if_true, if_false, beq_self_eq_true, List.length_cons, List.length_nil, List.append_nil, List.nil_append, List.cons_append, List.take, List.drop, List.take_zero, List.drop_zero, Option.map_some, List.head?_cons, RE hE, hE, f45]
  refine enter (af := f46) rfl rfl rfl ?_
  simp -implicitDefEqProofs only [Nat.reduceEqDiff, Nat.reduceLT, Nat.reduceBEq, reduceCtorEq, Nat.reduceAdd, Nat.reduceMod, Nat.reduceMul, Nat.reduceLeDiff, Nat.reduceSub, Int.reduceLT, Int.reduceLE, Int.reduceEq, Int.reduceNe, RR0, RR1, RR2, RR3, RR4, RR5, RR6, cond_true, cond_false, if_true, if_false, beq_self_eq_true, List.length_cons, List.length_nil, List.append_nil, List.nil_append, List.cons_append, List.take, List.drop, List.take_zero, List.drop_zero, Option.map_some, List.head?_cons, RE hE, hE, f46]
  refine enter (af := f47) rfl rfl rfl ?_
  simp -implicitDefEqProofs only [Nat.reduceEqDiff, Nat.reduceLT, Nat.reduceBEq, reduceCtorEq, Nat.reduceAdd, Nat.reduceMod, Nat.reduceMul, Nat.reduceLeDiff, Nat.reduceSub, Int.reduceLT, Int.reduceLE, Int.reduceEq, Int.reduceNe, RR0, RR1, RR2, RR3, RR4, RR5, RR6, cond_true, cond_false, if_true, if_false, beq_self_eq_true, List.length_cons, List.length_nil, List.append_nil, List.nil_append, List.cons_append, List.take, List.drop, List.take_zero, List.drop_zero, Option.map_some, List.head?_cons, RE hE, hE, f47]
  exact ⟨h.nx + 8, rfl, ⟨by first | exact Nat.le_add_right _ _ | exact Nat.le_refl _, fun i hi => by (simp only [Tr.get_set]; repeat rw [if_neg (by omega)])⟩, Nat.le_add_right _ _, Nat.lt_succ_self _, by simp [Tr.get_set, hloadO, cgets, cget, nblt, get_e, agetI], by simp [Tr.get_set, hloadO, cgets, cget, nblt, get_e, agetI]⟩

theorem ask_nil (a1 a2 a3 a4 a5 a6 a7 : Int) (g1 : List Nat) (l1 : AV) (fr : Int) (h : AH) : wF E 18 [.np, .ag [.i .i64 a1, .i .i64 a2, .i .i64 a3, .i .i64 a4, .i .i64 a5, .i .i64 a6, .i .i64 a7, .s g1, l1], .i .i64 fr] h fun v h' => v = .nsl ∧ Grow h h' := by
  refine enter (af := f18) rfl rfl rfl ?_
  simp -implicitDefEqProofs only [Nat.reduceEqDiff, Nat.reduceLT, Nat.reduceBEq, reduceCtorEq, Nat.reduceAdd, Nat.reduceMod, Nat.reduceMul, Nat.reduceLeDiff, Nat.reduceSub, Int.reduceLT, Int.reduceLE, Int.reduceEq, Int.reduceNe, RR0, RR1, RR2, RR3, RR4, RR5, RR6, cond_true, cond_false, if_true, if_false, beq_self_eq_true, List.length_cons, List.length_nil, List.append_nil, List.nil_append, List.cons_append, List.take, List.drop, List.take_zero, List.drop_zero, Option.map_some, List.head?_cons, RE hE, hE, f18]
  exact ⟨by first | exact Nat.le_add_right _ _ | exact Nat.le_refl _, fun i hi => by (simp only [Tr.get_set]; repeat rw [if_neg (by omega)])⟩

theorem mail_nil (m1 m2 : Int) (l2 : AV) (b1 b2 b3 b4 b5 b6 b7 : Int) (g2 : List Nat) (l3 : AV) (y1 y2 y3 y4 : Int) (fr : Int) (h : AH) : wF E 19 [.np, .ag [.i .i64 m1, .i .i64 m2, l2, .i .i64 b1, .i .i64 b2, .i .i64 b3, .i .i64 b4, .i .i64 b5, .i .i64 b6, .i .i64 b7, .s g2, l3, .i .i64 y1, .i .i64 y2, .i .i64 y3, .i .i64 y4], .i .i64 fr] h fun v h' => v = .nsl ∧ Grow h h' := by
  refine enter (af := f19) rfl rfl rfl ?_
  simp -implicitDefEqProofs only [Nat.reduceEqDiff, Nat.reduceLT, Nat.reduceBEq, reduceCtorEq, Nat.reduceAdd, Nat.reduceMod, Nat.reduceMul, Nat.reduceLeDiff, Nat.reduceSub, Int.reduceLT, Int.reduceLE, Int.reduceEq, Int.reduceNe, RR0, RR1, RR2, RR3, RR4, RR5, RR6, cond_true, cond_false, if_true, if_false, beq_self_eq_true, List.length_cons, List.length_nil, List.append_nil, List.nil_append, List.cons_append, List.take, List.drop, List.take_zero, List.drop_zero, Option.map_some, List.head?_cons, RE hE, hE, f19]
  exact ⟨by first | exact Nat.le_add_right _ _ | exact Nat.le_refl _, fun i hi => by (simp only [Tr.get_set]; repeat rw [if_neg (by omega)])⟩

/-- A desk that looks at requests of its own alone. -/
theorem ask_far (a1 a2 a3 a4 a5 a6 a7 : Int) (g1 : List Nat) (l1 : AV) (l : List (List Nat × Int)) (hlen : l.length ≤ 9223372036854775807) (fr : Int) (kid : Nat) (h : AH) (hi : Items h l1 l) (hk : kid < h.nx) (hk0 : hloadO (h.o.get kid) 0 1 = some [.i .i64 0]) (hk1 : hloadO (h.o.get kid) 1 1 = some [.i .i64 2])
    (hfr : fr = 2 ∨ fr = 0 ∧ a1.tmod 2 ≠ 0) : wF E 18 [.p kid 0, .ag [.i .i64 a1, .i .i64 a2, .i .i64 a3, .i .i64 a4, .i .i64 a5, .i .i64 a6, .i .i64 a7, .s g1, l1], .i .i64 fr] h fun v h' => v = .nsl ∧ Grow h h' := by
  have hG : Grow h ⟨h.nx + 4, ((h.o.set h.nx (.cells 1 false false 1 [.p kid 0] .e)).set (h.nx + 1) (.cells 9 false false 9 [.i .i64 a1, .i .i64 a2, .i .i64 a3, .i .i64 a4, .i .i64 a5, .i .i64 a6, .i .i64 a7, .s g1, l1] .e)).set (h.nx + 2) (.cells 1 false false 1 [.i .i64 fr] .e)⟩ := ⟨by first | exact Nat.le_add_right _ _ | exact Nat.le_refl _, fun i hi => by (simp only [Tr.get_set]; repeat rw [if_neg (by omega)])⟩
  refine enter (af := f18) rfl rfl rfl ?_
  simp -implicitDefEqProofs only [Nat.reduceEqDiff, Nat.reduceLT, Nat.reduceBEq, reduceCtorEq, Nat.reduceAdd, Nat.reduceMod, Nat.reduceMul, Nat.reduceLeDiff, Nat.reduceSub, Int.reduceLT, Int.reduceLE, Int.reduceEq, Int.reduceNe, RR0, RR1, RR2, RR3, RR4, RR5, RR6, cond_true, cond_false, if_true, if_false, beq_self_eq_true, List.length_cons, List.length_nil, List.append_nil, List.nil_append, List.cons_append, List.take, List.drop, List.take_zero, List.drop_zero, Option.map_some, List.head?_cons, RE hE, hE, f18]
  refine wF_mono (may_ask _ _ _ _ _ _ _ _ _ l hlen _ (hi.grow hG)) ?_
  rintro _ h2 ⟨⟨β, rfl, h0⟩, hg⟩
  have c0 := hg.old h.nx (by show _ < _ + 4; omega)
  have c1 := hg.old (h.nx + 1) (by show _ < _ + 4; omega)
  have c2 := hg.old (h.nx + 2) (by show _ < _ + 4; omega)
  have ck := hg.old kid (by show _ < _ + 4; omega)
  have hG2 : Grow h h2 := hG.trans hg
  simp only [Tr.get_set, if_true, Nat.add_left_cancel_iff, Nat.left_eq_add, Nat.add_eq_left, Nat.reduceEqDiff, if_false] at c0 c1 c2 ck
  rw [if_neg (by omega), if_neg (by omega), if_neg (by omega)] at ck
  rw [← ck] at hk0 hk1
  clear hg ck
  cases β
  · simp -implicitDefEqProofs only [Nat.reduceEqDiff, Nat.reduceLT, Nat.reduceBEq, reduceCtorEq, Nat.reduceAdd, Nat.reduceMod, Nat.reduceMul, Nat.reduceLeDiff, Nat.reduceSub, Int.reduceLT, Int.reduceLE, Int.reduceEq, Int.reduceNe, RR0, RR1, RR2, RR3, RR4, RR5, RR6, cond_true, cond_false, if_true, if_false, beq_self_eq_true, List.length_cons, List.length_nil, List.append_nil, List.nil_append, List.cons_append, List.take, List.drop, List.take_zero, List.drop_zero, Option.map_some, List.head?_cons, RE hE, hE, c0, c1, c2]
    exact hG2
  · have h0 := h0 rfl
    simp -implicitDefEqProofs only [Nat.reduceEqDiff, Nat.reduceLT, Nat.reduceBEq, reduceCtorEq, Nat.reduceAdd, Nat.reduceMod, Nat.reduceMul, Nat.reduceLeDiff, Nat.reduceSub, Int.reduceLT, Int.reduceLE, Int.reduceEq, Int.reduceNe, RR0, RR1, RR2, RR3, RR4, RR5, RR6, cond_true, cond_false, if_true, if_false, beq_self_eq_true, List.length_cons, List.length_nil, List.append_nil, List.nil_append, List.cons_append, List.take, List.drop, List.take_zero, List.drop_zero, Option.map_some, List.head?_cons, RE hE, hE, c0, c1, c2]
    refine enter (af := f53) rfl rfl rfl ?_
    rcases hfr with rfl | ⟨rfl, hodd⟩
    · simp -implicitDefEqProofs only [Nat.reduceEqDiff, Nat.reduceLT, Nat.reduceBEq, reduceCtorEq, Nat.reduceAdd, Nat.reduceMod, Nat.reduceMul, Nat.reduceLeDiff, Nat.reduceSub, Int.reduceLT, Int.reduceLE, Int.reduceEq, Int.reduceNe, RR0, RR1, RR2, RR3, RR4, RR5, RR6, cond_true, cond_false, if_true, if_false, beq_self_eq_true, List.length_cons, List.length_nil, List.append_nil, List.nil_append, List.cons_append, List.take, List.drop, List.take_zero, List.drop_zero, Option.map_some, List.head?_cons, RE hE, hE, f53, hk1, c0, c1, c2]
      exact hG2
    · simp -implicitDefEqProofs only [Nat.reduceEqDiff, Nat.reduceLT, Nat.reduceBEq, reduceCtorEq, Nat.reduceAdd, Nat.reduceMod, Nat.reduceMul, Nat.reduceLeDiff, Nat.reduceSub, Int.reduceLT, Int.reduceLE, Int.reduceEq, Int.reduceNe, RR0, RR1, RR2, RR3, RR4, RR5, RR6, cond_true, cond_false, if_true, if_false, beq_self_eq_true, List.length_cons, List.length_nil, List.append_nil, List.nil_append, List.cons_append, List.take, List.drop, List.take_zero, List.drop_zero, Option.map_some, List.head?_cons, RE hE, hE, f53, hk1, hk0, c0, c1, c2]
      refine enter (af := f54) rfl rfl rfl ?_
      have hb1 : decide (a1 < 0) = false := decide_eq_false (by omega)
      have hb2 : decide (a1.tmod 2 = 0) = false := decide_eq_false hodd
      have hrem : iarith .rem .i64 a1 2 = some (.i .i64 (a1.tmod 2)) := iarith_rem _ _ _ (by decide)
      simp -implicitDefEqProofs only [Nat.reduceEqDiff, Nat.reduceLT, Nat.reduceBEq, reduceCtorEq, Nat.reduceAdd, Nat.reduceMod, Nat.reduceMul, Nat.reduceLeDiff, Nat.reduceSub, Int.reduceLT, Int.reduceLE, Int.reduceEq, Int.reduceNe, RR0, RR1, RR2, RR3, RR4, RR5, RR6, cond_true, cond_false, if_true, if_false, beq_self_eq_true, List.length_cons, List.length_nil, List.append_nil, List.nil_append, List.cons_append, List.take, List.drop, List.take_zero, List.drop_zero, Option.map_some, List.head?_cons, RE hE, hE, f54, hk0, hb1, hb2, hrem, c0, c1, c2]
      exact hG2

theorem mail_far (m1 m2 : Int) (l2 : AV) (b1 b2 b3 b4 b5 b6 b7 : Int) (g2 : List Nat) (l3 : AV) (y1 y2 y3 y4 : Int) (k2 k3 : List (List Nat × Int)) (hk2 : k2.length ≤ 9223372036854775807) (hk3 : k3.length ≤ 9223372036854775807) (fr : Int) (kid : Nat) (h : AH) (i2 : Items h l2 k2) (i3 : Items h l3 k3) (hfr : fr < 0) : wF E 19 [.p kid 0, .ag [.i .i64 m1, .i .i64 m2, l2, .i .i64 b1, .i .i64 b2, .i .i64 b3, .i .i64 b4, .i .i64 b5, .i .i64 b6, .i .i64 b7, .s g2, l3, .i .i64 y1, .i .i64 y2, .i .i64 y3, .i .i64 y4], .i .i64 fr] h fun v h' => v = .nsl ∧ Grow h h' := by
  have hG : Grow h ⟨h.nx + 1, h.o.set h.nx (.cells 16 false false 16 [.i .i64 m1, .i .i64 m2, l2, .i .i64 b1, .i .i64 b2, .i .i64 b3, .i .i64 b4, .i .i64 b5, .i .i64 b6, .i .i64 b7, .s g2, l3, .i .i64 y1, .i .i64 y2, .i .i64 y3, .i .i64 y4] .e)⟩ := ⟨by first | exact Nat.le_add_right _ _ | exact Nat.le_refl _, fun i hi => by (simp only [Tr.get_set]; repeat rw [if_neg (by omega)])⟩
  refine enter (af := f19) rfl rfl rfl ?_
  simp -implicitDefEqProofs only [Nat.reduceEqDiff, Nat.reduceLT, Nat.reduceBEq, reduceCtorEq, Nat.reduceAdd, Nat.reduceMod, Nat.reduceMul, Nat.reduceLeDiff, Nat.reduceSub, Int.reduceLT, Int.reduceLE, Int.reduceEq, Int.reduceNe, RR0, RR1, RR2, RR3, RR4, RR5, RR6, cond_true, cond_false, if_true, if_false, beq_self_eq_true, List.length_cons, List.length_nil, List.append_nil, List.nil_append, List.cons_append, List.take, List.drop, List.take_zero, List.drop_zero, Option.map_some, List.head?_cons, RE hE, hE, f19]
  refine wF_mono (may_mail _ _ _ _ _ _ _ _ _ _ _ _ _ _ _ _ k2 k3 hk2 hk3 _ (i2.grow hG) (i3.grow hG)) ?_
  rintro _ h2 ⟨⟨β, rfl⟩, hg⟩
  have hG2 : Grow h h2 := hG.trans hg
  have hb : decide (0 ≤ fr) = false := decide_eq_false (by omega)
  cases β
  · simp -implicitDefEqProofs only [Nat.reduceEqDiff, Nat.reduceLT, Nat.reduceBEq, reduceCtorEq, Nat.reduceAdd, Nat.reduceMod, Nat.reduceMul, Nat.reduceLeDiff, Nat.reduceSub, Int.reduceLT, Int.reduceLE, Int.reduceEq, Int.reduceNe, RR0, RR1, RR2, RR3, RR4, RR5, RR6, cond_true, cond_false, if_true, if_false, beq_self_eq_true, List.length_cons, List.length_nil, List.append_nil, List.nil_append, List.cons_append, List.take, List.drop, List.take_zero, List.drop_zero, Option.map_some, List.head?_cons, RE hE, hE]
    exact hG2
  · simp -implicitDefEqProofs only [Nat.reduceEqDiff, Nat.reduceLT, Nat.reduceBEq, reduceCtorEq, Nat.reduceAdd, Nat.reduceMod, Nat.reduceMul, Nat.reduceLeDiff, Nat.reduceSub, Int.reduceLT, Int.reduceLE, Int.reduceEq, Int.reduceNe, RR0, RR1, RR2, RR3, RR4, RR5, RR6, cond_true, cond_false, if_true, if_false, beq_self_eq_true, List.length_cons, List.length_nil, List.append_nil, List.nil_append, List.cons_append, List.take, List.drop, List.take_zero, List.drop_zero, Option.map_some, List.head?_cons, RE hE, hE]
    refine enter (af := f53) rfl rfl rfl ?_
    simp -implicitDefEqProofs only [Nat.reduceEqDiff, Nat.reduceLT, Nat.reduceBEq, reduceCtorEq, Nat.reduceAdd, Nat.reduceMod, Nat.reduceMul, Nat.reduceLeDiff, Nat.reduceSub, Int.reduceLT, Int.reduceLE, Int.reduceEq, Int.reduceNe, RR0, RR1, RR2, RR3, RR4, RR5, RR6, cond_true, cond_false, if_true, if_false, beq_self_eq_true, List.length_cons, List.length_nil, List.append_nil, List.nil_append, List.cons_append, List.take, List.drop, List.take_zero, List.drop_zero, Option.map_some, List.head?_cons, RE hE, hE, f53, hb]
    exact hG2

end Go.Proofs.YtmlfcopllfdjfaaGreat.Am
