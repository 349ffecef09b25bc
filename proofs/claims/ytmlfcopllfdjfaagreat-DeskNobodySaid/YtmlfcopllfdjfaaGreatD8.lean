/- Walks through the functions that the law reaches: part D8. -/
import Derived.Test.YtmlfcopllfdjfaaGreatD7
namespace Go.Proofs.YtmlfcopllfdjfaaGreat.Am
open Dn

set_option maxRecDepth 100000
set_option linter.unusedSimpArgs false

theorem saga_nil (o : Int) (h : AH) : wF E 16 [.np, .i .i64 o] h fun v h' => v = .tp [.ag [.i .i64 0, .i .i64 0, .i .i64 0, .nsl, .b false, .i .i64 0, .i .i64 0, .nsl, .nsl, .b false], .b false] ∧ Grow h h' := by
  refine enter (af := f16) rfl rfl rfl ?_
  simp -implicitDefEqProofs only [Nat.reduceEqDiff, Nat.reduceLT, Nat.reduceBEq, reduceCtorEq, Nat.reduceAdd, Nat.reduceMod, Nat.reduceMul, Nat.reduceLeDiff, Nat.reduceSub, Int.reduceLT, Int.reduceLE, Int.reduceEq, Int.reduceNe, RR0, RR1, RR2, RR3, RR4, RR5, RR6, cond_true, cond_false, if_true, if_false, beq_self_eq_true, List.length_cons, List.length_nil, List.append_nil, List.nil_append, List.cons_append, List.take, List.drop, List.take_zero, List.drop_zero, Option.map_some, List.head?_cons, RE hE, hE, f16]
  exact ⟨by first | exact Nat.le_add_right _ _ | exact Nat.le_refl _, fun i hi => by (simp only [Tr.get_set]; repeat rw [if_neg (by omega)])⟩

theorem parcel_nil (o : Int) (h : AH) : wF E 17 [.np, .i .i64 o] h fun v h' => v = .tp [.ag [.i .i64 0, .nsl, .nsl, .nsl], .b false] ∧ Grow h h' := by
  refine enter (af := f17) rfl rfl rfl ?_
  simp -implicitDefEqProofs only [Nat.reduceEqDiff, Nat.reduceLT, Nat.reduceBEq, reduceCtorEq, Nat.reduceAdd, Nat.reduceMod, Nat.reduceMul, Nat.reduceLeDiff, Nat.reduceSub, Int.reduceLT, Int.reduceLE, Int.reduceEq, Int.reduceNe, RR0, RR1, RR2, RR3, RR4, RR5, RR6, cond_true, cond_false, if_true, if_false, beq_self_eq_true, List.length_cons, List.length_nil, List.append_nil, List.nil_append, List.cons_append, List.take, List.drop, List.take_zero, List.drop_zero, Option.map_some, List.head?_cons, RE hE, hE, f17]
  exact ⟨by first | exact Nat.le_add_right _ _ | exact Nat.le_refl _, fun i hi => by (simp only [Tr.get_set]; repeat rw [if_neg (by omega)])⟩

theorem open_nil (h : AH) : wF E 20 [.np] h fun v h' => v = .i .i64 0 ∧ Grow h h' := by
  refine enter (af := f20) rfl rfl rfl ?_
  simp -implicitDefEqProofs only [Nat.reduceEqDiff, Nat.reduceLT, Nat.reduceBEq, reduceCtorEq, Nat.reduceAdd, Nat.reduceMod, Nat.reduceMul, Nat.reduceLeDiff, Nat.reduceSub, Int.reduceLT, Int.reduceLE, Int.reduceEq, Int.reduceNe, RR0, RR1, RR2, RR3, RR4, RR5, RR6, cond_true, cond_false, if_true, if_false, beq_self_eq_true, List.length_cons, List.length_nil, List.append_nil, List.nil_append, List.cons_append, List.take, List.drop, List.take_zero, List.drop_zero, Option.map_some, List.head?_cons, RE hE, hE, f20]
  exact ⟨by first | exact Nat.le_add_right _ _ | exact Nat.le_refl _, fun i hi => by (simp only [Tr.get_set]; repeat rw [if_neg (by omega)])⟩

theorem waiting_nil (h : AH) : wF E 21 [.np] h fun v h' => v = .i .i64 0 ∧ Grow h h' := by
  refine enter (af := f21) rfl rfl rfl ?_
  simp -implicitDefEqProofs only [Nat.reduceEqDiff, Nat.reduceLT, Nat.reduceBEq, reduceCtorEq, Nat.reduceAdd, Nat.reduceMod, Nat.reduceMul, Nat.reduceLeDiff, Nat.reduceSub, Int.reduceLT, Int.reduceLE, Int.reduceEq, Int.reduceNe, RR0, RR1, RR2, RR3, RR4, RR5, RR6, cond_true, cond_false, if_true, if_false, beq_self_eq_true, List.length_cons, List.length_nil, List.append_nil, List.nil_append, List.cons_append, List.take, List.drop, List.take_zero, List.drop_zero, Option.map_some, List.head?_cons, RE hE, hE, f21]
  exact ⟨by first | exact Nat.le_add_right _ _ | exact Nat.le_refl _, fun i hi => by (simp only [Tr.get_set]; repeat rw [if_neg (by omega)])⟩

theorem pack_nil (h : AH) : wF E 22 [.np] h fun v h' => v = .nsl ∧ Grow h h' := by
  refine enter (af := f22) rfl rfl rfl ?_
  simp -implicitDefEqProofs only [Nat.reduceEqDiff, Nat.reduceLT, Nat.reduceBEq, reduceCtorEq, Nat.reduceAdd, Nat.reduceMod, Nat.reduceMul, Nat.reduceLeDiff, Nat.reduceSub, Int.reduceLT, Int.reduceLE, Int.reduceEq, Int.reduceNe, RR0, RR1, RR2, RR3, RR4, RR5, RR6, cond_true, cond_false, if_true, if_false, beq_self_eq_true, List.length_cons, List.length_nil, List.append_nil, List.nil_append, List.cons_append, List.take, List.drop, List.take_zero, List.drop_zero, Option.map_some, List.head?_cons, RE hE, hE, f22]
  exact ⟨by first | exact Nat.le_add_right _ _ | exact Nat.le_refl _, fun i hi => by (simp only [Tr.get_set]; repeat rw [if_neg (by omega)])⟩

theorem sagas_nil {c y : Nat} (h : AH) (hc : hloadO (h.o.get c) 0 1 = some [.np]) : wF E 42 [.f (.yield y) [] [], .p c 0] h fun _ h' => Grow h h' := by
  refine enter (af := f42) rfl rfl rfl ?_
  simp -implicitDefEqProofs only [Nat.reduceEqDiff, Nat.reduceLT, Nat.reduceBEq, reduceCtorEq, Nat.reduceAdd, Nat.reduceMod, Nat.reduceMul, Nat.reduceLeDiff, Nat.reduceSub, Int.reduceLT, Int.reduceLE, Int.reduceEq, Int.reduceNe, RR0, RR1, RR2, RR3, RR4, RR5, RR6, cond_true, cond_false, if_true, if_false, beq_self_eq_true, List.length_cons, List.length_nil, List.append_nil, List.nil_append, List.cons_append, List.take, List.drop, List.take_zero, List.drop_zero, Option.map_some, List.head?_cons, RE hE, hE, f42, hc]
  exact ⟨by first | exact Nat.le_add_right _ _ | exact Nat.le_refl _, fun i hi => by (simp only [Tr.get_set]; repeat rw [if_neg (by omega)])⟩

end Go.Proofs.YtmlfcopllfdjfaaGreat.Am
