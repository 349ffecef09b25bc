/- Walks through the functions that the law reaches: part D5. -/
import Derived.Test.YtmlfcopllfdjfaaGreatD3
namespace Go.Proofs.YtmlfcopllfdjfaaGreat.Am
open Dn

set_option maxRecDepth 100000
set_option linter.unusedSimpArgs false

theorem equal_nil {v : AV} {n : Nat} (hl : slLen v = some n) (h : AH) : wF E 140 [v, .nsl] h fun r h' => (∃ β, r = .b β) ∧ h' = h := by
  refine enter (af := f140) rfl rfl rfl ?_
  simp -implicitDefEqProofs only [Nat.reduceEqDiff, Nat.reduceLT, Nat.reduceBEq, reduceCtorEq, Nat.reduceAdd, Nat.reduceMod, Nat.reduceMul, Nat.reduceLeDiff, Nat.reduceSub, Int.reduceLT, Int.reduceLE, Int.reduceEq, Int.reduceNe, RR0, RR1, RR2, RR3, RR4, RR5, RR6, cond_true, cond_false, if_true, if_false, beq_self_eq_true, List.length_cons, List.length_nil, List.append_nil, List.nil_append, List.cons_append, List.take, List.drop, List.take_zero, List.drop_zero, Option.map_some, List.head?_cons, RE hE, hE, f140, hl]
  refine condK_any fun c hc => ?_
  cases c
  · have h0 : n = 0 := by simp at hc; omega
    subst h0
    simp -implicitDefEqProofs only [Nat.reduceEqDiff, Nat.reduceLT, Nat.reduceBEq, reduceCtorEq, Nat.reduceAdd, Nat.reduceMod, Nat.reduceMul, Nat.reduceLeDiff, Nat.reduceSub, Int.reduceLT, Int.reduceLE, Int.reduceEq, Int.reduceNe, RR0, RR1, RR2, RR3, RR4, RR5, RR6, cond_true, cond_false, if_true, if_false, beq_self_eq_true, List.length_cons, List.length_nil, List.append_nil, List.nil_append, List.cons_append, List.take, List.drop, List.take_zero, List.drop_zero, Option.map_some, List.head?_cons, RE hE, hE, hc, hl]
    refine wE_loop1 (wC_E ?_)
    simp -implicitDefEqProofs only [Nat.reduceEqDiff, Nat.reduceLT, Nat.reduceBEq, reduceCtorEq, Nat.reduceAdd, Nat.reduceMod, Nat.reduceMul, Nat.reduceLeDiff, Nat.reduceSub, Int.reduceLT, Int.reduceLE, Int.reduceEq, Int.reduceNe, RR0, RR1, RR2, RR3, RR4, RR5, RR6, cond_true, cond_false, if_true, if_false, beq_self_eq_true, List.length_cons, List.length_nil, List.append_nil, List.nil_append, List.cons_append, List.take, List.drop, List.take_zero, List.drop_zero, Option.map_some, List.head?_cons, RE hE, hE, hc, hl]
    exact ⟨⟨_, rfl⟩, trivial⟩
  · simp -implicitDefEqProofs only [Nat.reduceEqDiff, Nat.reduceLT, Nat.reduceBEq, reduceCtorEq, Nat.reduceAdd, Nat.reduceMod, Nat.reduceMul, Nat.reduceLeDiff, Nat.reduceSub, Int.reduceLT, Int.reduceLE, Int.reduceEq, Int.reduceNe, RR0, RR1, RR2, RR3, RR4, RR5, RR6, cond_true, cond_false, if_true, if_false, beq_self_eq_true, List.length_cons, List.length_nil, List.append_nil, List.nil_append, List.cons_append, List.take, List.drop, List.take_zero, List.drop_zero, Option.map_some, List.head?_cons, RE hE, hE, hc]
    exact ⟨⟨_, rfl⟩, trivial⟩

theorem same_nil (a1 a2 a3 a4 a5 a6 a7 : Int) (g1 : List Nat) (l1 : AV) {n : Nat} (hl : slLen l1 = some n) (b1 b2 b3 b4 b5 b6 b7 : Int) (g2 : List Nat) (h : AH) :
    wF E 79 [.ag [.i .i64 a1, .i .i64 a2, .i .i64 a3, .i .i64 a4, .i .i64 a5, .i .i64 a6, .i .i64 a7, .s g1, l1], .ag [.i .i64 b1, .i .i64 b2, .i .i64 b3, .i .i64 b4, .i .i64 b5, .i .i64 b6, .i .i64 b7, .s g2, .nsl]] h fun r h' => (∃ β, r = .b β) ∧ Grow h h' := by
  have hG : Grow h ⟨h.nx + 2, (h.o.set h.nx (.cells 9 false false 9 [.i .i64 a1, .i .i64 a2, .i .i64 a3, .i .i64 a4, .i .i64 a5, .i .i64 a6, .i .i64 a7, .s g1, l1] .e)).set (h.nx + 1) (.cells 9 false false 9 [.i .i64 b1, .i .i64 b2, .i .i64 b3, .i .i64 b4, .i .i64 b5, .i .i64 b6, .i .i64 b7, .s g2, .nsl] .e)⟩ :=
    (Grow.newS (Grow.refl h) (Nat.le_refl _) (Nat.le_add_right _ 2)).putS (Nat.le_add_right _ _)
  refine enter (af := f79) rfl rfl rfl ?_
  simp -implicitDefEqProofs only [Nat.reduceEqDiff, Nat.reduceLT, Nat.reduceBEq, reduceCtorEq, Nat.reduceAdd, Nat.reduceMod, Nat.reduceMul, Nat.reduceLeDiff, Nat.reduceSub, Int.reduceLT, Int.reduceLE, Int.reduceEq, Int.reduceNe, RR0, RR1, RR2, RR3, RR4, RR5, RR6, cond_true, cond_false, if_true, if_false, beq_self_eq_true, List.length_cons, List.length_nil, List.append_nil, List.nil_append, List.cons_append, List.take, List.drop, List.take_zero, List.drop_zero, Option.map_some, List.head?_cons, RE hE, hE, f79, hl]
  repeat' (first
    | (refine wF_mono (equal_nil hl _) ?_; rintro _ _ ⟨⟨β, rfl⟩, rfl⟩; simp -implicitDefEqProofs only [Nat.reduceEqDiff, Nat.reduceLT, Nat.reduceBEq, reduceCtorEq, Nat.reduceAdd, Nat.reduceMod, Nat.reduceMul, Nat.reduceLeDiff, Nat.reduceSub, Int.reduceLT, Int.reduceLE, Int.reduceEq, Int.reduceNe, RR0, RR1, RR2, RR3, RR4, RR5, RR6, cond_true, cond_false, if_true, if_false, beq_self_eq_true, List.length_cons, List.length_nil, List.append_nil, List.nil_append, List.cons_append, List.take, List.drop, List.take_zero, List.drop_zero, Option.map_some, List.head?_cons, RE hE, hE, *])
    | (exact ⟨⟨_, rfl⟩, hG⟩)
    | (exact ⟨⟨_, rfl⟩, trivial⟩)
    | (refine gK_any fun c hc => ?_; cases c <;> simp -implicitDefEqProofs only [Nat.reduceEqDiff, Nat.reduceLT, Nat.reduceBEq, reduceCtorEq, Nat.reduceAdd, Nat.reduceMod, Nat.reduceMul, Nat.reduceLeDiff, Nat.reduceSub, Int.reduceLT, Int.reduceLE, Int.reduceEq, Int.reduceNe, RR0, RR1, RR2, RR3, RR4, RR5, RR6, cond_true, cond_false, if_true, if_false, beq_self_eq_true, List.length_cons, List.length_nil, List.append_nil, List.nil_append, List.cons_append, List.take, List.drop, List.take_zero, List.drop_zero, Option.map_some, List.head?_cons, RE hE, hE, *])
    | (refine condK_any fun c hc => ?_; cases c <;> simp -implicitDefEqProofs only [Nat.reduceEqDiff, Nat.reduceLT, Nat.reduceBEq, reduceCtorEq, Nat.reduceAdd, Nat.reduceMod, Nat.reduceMul, Nat.reduceLeDiff, Nat.reduceSub, Int.reduceLT, Int.reduceLE, Int.reduceEq, Int.reduceNe, RR0, RR1, RR2, RR3, RR4, RR5, RR6, cond_true, cond_false, if_true, if_false, beq_self_eq_true, List.length_cons, List.length_nil, List.append_nil, List.nil_append, List.cons_append, List.take, List.drop, List.take_zero, List.drop_zero, Option.map_some, List.head?_cons, RE hE, hE, *])
    | (refine gPo_any fun c hc => ?_; cases c <;> simp -implicitDefEqProofs only [Nat.reduceEqDiff, Nat.reduceLT, Nat.reduceBEq, reduceCtorEq, Nat.reduceAdd, Nat.reduceMod, Nat.reduceMul, Nat.reduceLeDiff, Nat.reduceSub, Int.reduceLT, Int.reduceLE, Int.reduceEq, Int.reduceNe, RR0, RR1, RR2, RR3, RR4, RR5, RR6, cond_true, cond_false, if_true, if_false, beq_self_eq_true, List.length_cons, List.length_nil, List.append_nil, List.nil_append, List.cons_append, List.take, List.drop, List.take_zero, List.drop_zero, Option.map_some, List.head?_cons, RE hE, hE, *])
    | (refine gPc_any fun c hc => ?_; cases c <;> simp -implicitDefEqProofs only [Nat.reduceEqDiff, Nat.reduceLT, Nat.reduceBEq, reduceCtorEq, Nat.reduceAdd, Nat.reduceMod, Nat.reduceMul, Nat.reduceLeDiff, Nat.reduceSub, Int.reduceLT, Int.reduceLE, Int.reduceEq, Int.reduceNe, RR0, RR1, RR2, RR3, RR4, RR5, RR6, cond_true, cond_false, if_true, if_false, beq_self_eq_true, List.length_cons, List.length_nil, List.append_nil, List.nil_append, List.cons_append, List.take, List.drop, List.take_zero, List.drop_zero, Option.map_some, List.head?_cons, RE hE, hE, *]))

theorem answer_eq (y1 y2 y3 y4 : Int) : ∃ β, abin .eql (.ag [(0, 1, false, .int), (1, 1, false, .int), (2, 1, false, .int), (3, 1, false, .int)]) (.ag [.i .i64 y1, .i .i64 y2, .i .i64 y3, .i .i64 y4]) (.ag [.i .i64 0, .i .i64 0, .i .i64 0, .i .i64 0]) = some (.b β) := by
  simp only [abin, aeq, aeqs, apart, List.drop, List.head?_cons, kindEq_self, boolK_eq]
  by_cases h1 : y1 = 0 <;> by_cases h2 : y2 = 0 <;> by_cases h3 : y3 = 0 <;> by_cases h4 : y4 = 0 <;> simp [h1, h2, h3, h4]
end Go.Proofs.YtmlfcopllfdjfaaGreat.Am
