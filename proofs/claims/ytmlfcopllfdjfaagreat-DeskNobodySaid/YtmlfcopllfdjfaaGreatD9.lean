/- Walks through the functions that the law reaches: part D9. -/
import Derived.Test.YtmlfcopllfdjfaaGreatD8
namespace Go.Proofs.YtmlfcopllfdjfaaGreat.Am
open Dn

set_option maxRecDepth 100000
set_option linter.unusedSimpArgs false

/-- What the law's own cells hold, behind its first calls. -/
structure LK (n kid : Nat) (la lm : List AV) (l1 l2 l3 : AV) (k1 k2 k3 : List (List Nat × Int)) (x : AH) : Prop where
  A : x.o.get n = some (.cells 9 false false 9 la .e)
  B : x.o.get (n + 1) = some (.cells 16 false false 16 lm .e)
  C : x.o.get (n + 2) = some (.cells 1 false false 1 [.b false] .e)
  D : hloadO (x.o.get (n + 3)) 0 1 = some [.np]
  N : n + 4 ≤ x.nx
  K : kid < x.nx
  r0 : hloadO (x.o.get kid) 0 1 = some [.i .i64 0]
  r1 : hloadO (x.o.get kid) 1 1 = some [.i .i64 2]
  i1 : Items x l1 k1
  i2 : Items x l2 k2
  i3 : Items x l3 k3

theorem LK.grow {n kid : Nat} {la lm : List AV} {l1 l2 l3 : AV} {k1 k2 k3 : List (List Nat × Int)} {x y : AH} (s : LK n kid la lm l1 l2 l3 k1 k2 k3 x) (g : Grow x y) : LK n kid la lm l1 l2 l3 k1 k2 k3 y := by
  have := s.N
  exact ⟨g.get (i := n) (by omega) s.A, g.get (i := n + 1) (by omega) s.B, g.get (i := n + 2) (by omega) s.C, hload_grow g (by omega) s.D, Nat.le_trans s.N g.nx, Nat.lt_of_lt_of_le s.K g.nx, hload_grow g s.K s.r0, hload_grow g s.K s.r1, s.i1.grow g, s.i2.grow g, s.i3.grow g⟩

set_option maxHeartbeats 2000000 in
theorem law_spec (a1 a2 a3 a4 a5 a6 a7 : Int) (g1 : List Nat) (l1 : AV) (m1 m2 : Int) (l2 : AV) (b1 b2 b3 b4 b5 b6 b7 : Int) (g2 : List Nat) (l3 : AV) (y1 y2 y3 y4 fr : Int) (k1 k2 k3 : List (List Nat × Int))
    (hk1 : k1.length ≤ 9223372036854775807) (hk2 : k2.length ≤ 9223372036854775807) (hk3 : k3.length ≤ 9223372036854775807) (h : AH) (i1 : Items h l1 k1) (i2 : Items h l2 k2) (i3 : Items h l3 k3) :
    wF E 4 [.ag [.i .i64 a1, .i .i64 a2, .i .i64 a3, .i .i64 a4, .i .i64 a5, .i .i64 a6, .i .i64 a7, .s g1, l1], .ag [.i .i64 m1, .i .i64 m2, l2, .i .i64 b1, .i .i64 b2, .i .i64 b3, .i .i64 b4, .i .i64 b5, .i .i64 b6, .i .i64 b7, .s g2, l3, .i .i64 y1, .i .i64 y2, .i .i64 y3, .i .i64 y4], .i .i64 fr] h fun v _ => v = .b true := by
  obtain ⟨c1, o1⟩ := i1.cells
  obtain ⟨c2, o2⟩ := i2.cells
  obtain ⟨c3, o3⟩ := i3.cells
  have e1 := i1.len
  have e2 := i2.len
  have e3 := i3.len
  refine enter (af := f4) rfl rfl rfl ?_
  simp -implicitDefEqProofs only [Nat.reduceEqDiff, Nat.reduceLT, Nat.reduceBEq, reduceCtorEq, Nat.reduceAdd, Nat.reduceMod, Nat.reduceMul, Nat.reduceLeDiff, Nat.reduceSub, Int.reduceLT, Int.reduceLE, Int.reduceEq, Int.reduceNe, RR0, RR1, RR2, RR3, RR4, RR5, RR6, cond_true, cond_false, if_true, if_false, beq_self_eq_true, List.length_cons, List.length_nil, List.append_nil, List.nil_append, List.cons_append, List.take, List.drop, List.take_zero, List.drop_zero, Option.map_some, List.head?_cons, RE hE, hE, f4]
  refine enter (af := f13) rfl rfl rfl ?_
  simp -implicitDefEqProofs only [Nat.reduceEqDiff, Nat.reduceLT, Nat.reduceBEq, reduceCtorEq, Nat.reduceAdd, Nat.reduceMod, Nat.reduceMul, Nat.reduceLeDiff, Nat.reduceSub, Int.reduceLT, Int.reduceLE, Int.reduceEq, Int.reduceNe, RR0, RR1, RR2, RR3, RR4, RR5, RR6, cond_true, cond_false, if_true, if_false, beq_self_eq_true, List.length_cons, List.length_nil, List.append_nil, List.nil_append, List.cons_append, List.take, List.drop, List.take_zero, List.drop_zero, Option.map_some, List.head?_cons, RE hE, hE, f13]
  refine wF_heap fun x hx => ?_
  have gx : Grow h x := by rw [hx]; exact ⟨by first | exact Nat.le_add_right _ _ | exact Nat.le_refl _, fun i hi => by (simp only [Tr.get_set]; repeat rw [if_neg (by omega)])⟩
  have A : x.o.get h.nx = some (.cells 9 false false 9 [.i .i64 a1, .i .i64 a2, .i .i64 a3, .i .i64 a4, .i .i64 a5, .i .i64 a6, .i .i64 a7, .s g1, l1] .e) := by rw [hx]; simp [Tr.get_set]
  have B : x.o.get (h.nx + 1) = some (.cells 16 false false 16 [.i .i64 m1, .i .i64 m2, l2, .i .i64 b1, .i .i64 b2, .i .i64 b3, .i .i64 b4, .i .i64 b5, .i .i64 b6, .i .i64 b7, .s g2, l3, .i .i64 y1, .i .i64 y2, .i .i64 y3, .i .i64 y4] .e) := by rw [hx]; simp [Tr.get_set]
  have C : x.o.get (h.nx + 2) = some (.cells 1 false false 1 [.b false] .e) := by rw [hx]; simp [Tr.get_set]
  have D : hloadO (x.o.get (h.nx + 3)) 0 1 = some [.np] := by rw [hx]; simp [Tr.get_set, hloadO, cgets, cget, nblt, get_e, agetI]
  have N : h.nx + 4 ≤ x.nx := by rw [hx]; exact Nat.le_refl _
  clear hx
  refine wF_mono (new_spec _) ?_
  rintro _ z ⟨kid, rfl, gz, kz, K, q0, q1⟩
  have lk : LK h.nx kid [.i .i64 a1, .i .i64 a2, .i .i64 a3, .i .i64 a4, .i .i64 a5, .i .i64 a6, .i .i64 a7, .s g1, l1] [.i .i64 m1, .i .i64 m2, l2, .i .i64 b1, .i .i64 b2, .i .i64 b3, .i .i64 b4, .i .i64 b5, .i .i64 b6, .i .i64 b7, .s g2, l3, .i .i64 y1, .i .i64 y2, .i .i64 y3, .i .i64 y4] l1 l2 l3 k1 k2 k3 z :=
    ⟨gz.get (by omega) A, gz.get (by omega) B, gz.get (by omega) C, hload_grow gz (by omega) D, Nat.le_trans N gz.nx, K, q0, q1, i1.grow (gx.trans gz), i2.grow (gx.trans gz), i3.grow (gx.trans gz)⟩
  have lz : h.nx + 4 ≤ z.nx := lk.N
  clear A B C D N K q0 q1 gx gz kz
  simp -implicitDefEqProofs only [Nat.reduceEqDiff, Nat.reduceLT, Nat.reduceBEq, reduceCtorEq, Nat.reduceAdd, Nat.reduceMod, Nat.reduceMul, Nat.reduceLeDiff, Nat.reduceSub, Int.reduceLT, Int.reduceLE, Int.reduceEq, Int.reduceNe, RR0, RR1, RR2, RR3, RR4, RR5, RR6, cond_true, cond_false, if_true, if_false, beq_self_eq_true, List.length_cons, List.length_nil, List.append_nil, List.nil_append, List.cons_append, List.take, List.drop, List.take_zero, List.drop_zero, Option.map_some, List.head?_cons, RE hE, hE]
  refine wF_ext (v := .b true) (h' := z) rfl ?_
  simp -implicitDefEqProofs only [Nat.reduceEqDiff, Nat.reduceLT, Nat.reduceBEq, reduceCtorEq, Nat.reduceAdd, Nat.reduceMod, Nat.reduceMul, Nat.reduceLeDiff, Nat.reduceSub, Int.reduceLT, Int.reduceLE, Int.reduceEq, Int.reduceNe, RR0, RR1, RR2, RR3, RR4, RR5, RR6, cond_true, cond_false, if_true, if_false, beq_self_eq_true, List.length_cons, List.length_nil, List.append_nil, List.nil_append, List.cons_append, List.take, List.drop, List.take_zero, List.drop_zero, Option.map_some, List.head?_cons, RE hE, hE, lk.A, lk.B, e1, e2, e3]
  have A := lk.A
  have B := lk.B
  have C := lk.C
  repeat' (first
    | (refine wF_ext (v := .b true) (h' := z) rfl ?_; simp -implicitDefEqProofs only [Nat.reduceEqDiff, Nat.reduceLT, Nat.reduceBEq, reduceCtorEq, Nat.reduceAdd, Nat.reduceMod, Nat.reduceMul, Nat.reduceLeDiff, Nat.reduceSub, Int.reduceLT, Int.reduceLE, Int.reduceEq, Int.reduceNe, RR0, RR1, RR2, RR3, RR4, RR5, RR6, cond_true, cond_false, if_true, if_false, beq_self_eq_true, List.length_cons, List.length_nil, List.append_nil, List.nil_append, List.cons_append, List.take, List.drop, List.take_zero, List.drop_zero, Option.map_some, List.head?_cons, RE hE, hE, *])
    | (refine gK_any fun c hc => ?_; cases c <;> simp -implicitDefEqProofs only [Nat.reduceEqDiff, Nat.reduceLT, Nat.reduceBEq, reduceCtorEq, Nat.reduceAdd, Nat.reduceMod, Nat.reduceMul, Nat.reduceLeDiff, Nat.reduceSub, Int.reduceLT, Int.reduceLE, Int.reduceEq, Int.reduceNe, RR0, RR1, RR2, RR3, RR4, RR5, RR6, cond_true, cond_false, if_true, if_false, beq_self_eq_true, List.length_cons, List.length_nil, List.append_nil, List.nil_append, List.cons_append, List.take, List.drop, List.take_zero, List.drop_zero, Option.map_some, List.head?_cons, RE hE, hE, *])
    | (refine condK_any fun c hc => ?_; cases c <;> simp -implicitDefEqProofs only [Nat.reduceEqDiff, Nat.reduceLT, Nat.reduceBEq, reduceCtorEq, Nat.reduceAdd, Nat.reduceMod, Nat.reduceMul, Nat.reduceLeDiff, Nat.reduceSub, Int.reduceLT, Int.reduceLE, Int.reduceEq, Int.reduceNe, RR0, RR1, RR2, RR3, RR4, RR5, RR6, cond_true, cond_false, if_true, if_false, beq_self_eq_true, List.length_cons, List.length_nil, List.append_nil, List.nil_append, List.cons_append, List.take, List.drop, List.take_zero, List.drop_zero, Option.map_some, List.head?_cons, RE hE, hE, *])
    | (refine gPo_any fun c hc => ?_; cases c <;> simp -implicitDefEqProofs only [Nat.reduceEqDiff, Nat.reduceLT, Nat.reduceBEq, reduceCtorEq, Nat.reduceAdd, Nat.reduceMod, Nat.reduceMul, Nat.reduceLeDiff, Nat.reduceSub, Int.reduceLT, Int.reduceLE, Int.reduceEq, Int.reduceNe, RR0, RR1, RR2, RR3, RR4, RR5, RR6, cond_true, cond_false, if_true, if_false, beq_self_eq_true, List.length_cons, List.length_nil, List.append_nil, List.nil_append, List.cons_append, List.take, List.drop, List.take_zero, List.drop_zero, Option.map_some, List.head?_cons, RE hE, hE, *])
    | (refine gPc_any fun c hc => ?_; cases c <;> simp -implicitDefEqProofs only [Nat.reduceEqDiff, Nat.reduceLT, Nat.reduceBEq, reduceCtorEq, Nat.reduceAdd, Nat.reduceMod, Nat.reduceMul, Nat.reduceLeDiff, Nat.reduceSub, Int.reduceLT, Int.reduceLE, Int.reduceEq, Int.reduceNe, RR0, RR1, RR2, RR3, RR4, RR5, RR6, cond_true, cond_false, if_true, if_false, beq_self_eq_true, List.length_cons, List.length_nil, List.append_nil, List.nil_append, List.cons_append, List.take, List.drop, List.take_zero, List.drop_zero, Option.map_some, List.head?_cons, RE hE, hE, *]))
  clear A B C
  refine wE_rf0 rfl (g := 42) (first := []) (cap := [.p (h.nx + 3) 0]) (by simp [ev_set]) ?_
  simp -implicitDefEqProofs only [List.nil_append, List.cons_append]
  refine wF_heap fun x hx => ?_
  have gx : Grow z x := by rw [hx]; exact ⟨by first | exact Nat.le_add_right _ _ | exact Nat.le_refl _, fun i hi => by (simp only [Tr.get_set]; repeat rw [if_neg (by omega)])⟩
  have F : x.o.get z.nx = some (.dfr false) := by rw [hx]; simp [Tr.get_set]
  have nx : x.nx = z.nx + 2 := by rw [hx]
  have L : x.o.get (z.nx + 1) = x.o.get (z.nx + 1) := rfl
  conv at L => rhs; rw [hx]
  simp only [Tr.get_set, if_true] at L
  clear hx
  refine wF_mono (sagas_nil _ (lk.grow gx).D) ?_
  rintro _ u gu
  refine rfEnd_of (gu.get (by omega) L) (by simp) ?_
  clear L
  simp -implicitDefEqProofs only [blkEnd_norm, andC_norm]
  refine wC_heap fun w hw => ?_
  have gw : Grow z w := by
    rw [hw]
    exact Grow.putS (gx.trans gu) (Nat.le_succ _)
  have F : w.o.get z.nx = some (.dfr false) := by rw [hw]; simp only [Tr.get_set]; rw [if_neg (by omega)]; exact gu.get (by omega) F
  have zw : z.nx < w.nx := by rw [hw]; exact Nat.lt_of_lt_of_le (by omega) gu.nx
  have lk := lk.grow gw
  clear hw gu gx
  simp -implicitDefEqProofs only [Nat.reduceEqDiff, Nat.reduceLT, Nat.reduceBEq, reduceCtorEq, Nat.reduceAdd, Nat.reduceMod, Nat.reduceMul, Nat.reduceLeDiff, Nat.reduceSub, Int.reduceLT, Int.reduceLE, Int.reduceEq, Int.reduceNe, RR0, RR1, RR2, RR3, RR4, RR5, RR6, cond_true, cond_false, if_true, if_false, beq_self_eq_true, List.length_cons, List.length_nil, List.append_nil, List.nil_append, List.cons_append, List.take, List.drop, List.take_zero, List.drop_zero, Option.map_some, List.head?_cons, RE hE, hE, lk.A, lk.B]
  refine wF_mono (saga_nil _ _) ?_
  rintro _ s1 ⟨rfl, g⟩
  have lk := lk.grow g
  have F := g.get zw F
  have zw : z.nx < s1.nx := Nat.lt_of_lt_of_le zw g.nx
  have n1 : h.nx ≠ s1.nx := by have := lk.N; omega
  clear g
  simp -implicitDefEqProofs only [Nat.reduceEqDiff, Nat.reduceLT, Nat.reduceBEq, reduceCtorEq, Nat.reduceAdd, Nat.reduceMod, Nat.reduceMul, Nat.reduceLeDiff, Nat.reduceSub, Int.reduceLT, Int.reduceLE, Int.reduceEq, Int.reduceNe, RR0, RR1, RR2, RR3, RR4, RR5, RR6, cond_true, cond_false, if_true, if_false, beq_self_eq_true, List.length_cons, List.length_nil, List.append_nil, List.nil_append, List.cons_append, List.take, List.drop, List.take_zero, List.drop_zero, Option.map_some, List.head?_cons, RE hE, hE, lk.A, n1]
  refine wF_heap fun x hx => ?_
  have g : Grow s1 x := by rw [hx]; exact ⟨by first | exact Nat.le_add_right _ _ | exact Nat.le_refl _, fun i hi => by (simp only [Tr.get_set]; repeat rw [if_neg (by omega)])⟩
  have lk := lk.grow g
  have F := g.get zw F
  have zw : z.nx < x.nx := Nat.lt_of_lt_of_le zw g.nx
  clear hx g n1
  refine wF_mono (parcel_nil _ _) ?_
  rintro _ s2 ⟨rfl, g⟩
  have lk := lk.grow g
  have F := g.get zw F
  have zw : z.nx < s2.nx := Nat.lt_of_lt_of_le zw g.nx
  have n1 : h.nx ≠ s2.nx := by have := lk.N; omega
  clear g
  have hrem : iarith .rem .i64 a1 2 = some (.i .i64 (a1.tmod 2)) := iarith_rem _ _ _ (by decide)
  simp -implicitDefEqProofs only [Nat.reduceEqDiff, Nat.reduceLT, Nat.reduceBEq, reduceCtorEq, Nat.reduceAdd, Nat.reduceMod, Nat.reduceMul, Nat.reduceLeDiff, Nat.reduceSub, Int.reduceLT, Int.reduceLE, Int.reduceEq, Int.reduceNe, RR0, RR1, RR2, RR3, RR4, RR5, RR6, cond_true, cond_false, if_true, if_false, beq_self_eq_true, List.length_cons, List.length_nil, List.append_nil, List.nil_append, List.cons_append, List.take, List.drop, List.take_zero, List.drop_zero, Option.map_some, List.head?_cons, RE hE, hE, lk.A, n1, hrem]
  refine gK_heap fun x hx => ?_
  have g : Grow s2 x := by rw [hx]; exact ⟨by first | exact Nat.le_add_right _ _ | exact Nat.le_refl _, fun i hi => by (simp only [Tr.get_set]; repeat rw [if_neg (by omega)])⟩
  have lk := lk.grow g
  have F := g.get zw F
  have zw := Nat.lt_of_lt_of_le zw g.nx
  clear g
  clear hx n1
  refine gK_any fun c hc => ?_
  have odd : c = true → a1.tmod 2 ≠ 0 := by rintro rfl; simpa using hc
  have lzn : h.nx + 4 ≤ z.nx := lz
  cases c
  · simp -implicitDefEqProofs only [Nat.reduceEqDiff, Nat.reduceLT, Nat.reduceBEq, reduceCtorEq, Nat.reduceAdd, Nat.reduceMod, Nat.reduceMul, Nat.reduceLeDiff, Nat.reduceSub, Int.reduceLT, Int.reduceLE, Int.reduceEq, Int.reduceNe, RR0, RR1, RR2, RR3, RR4, RR5, RR6, cond_true, cond_false, if_true, if_false, beq_self_eq_true, List.length_cons, List.length_nil, List.append_nil, List.nil_append, List.cons_append, List.take, List.drop, List.take_zero, List.drop_zero, Option.map_some, List.head?_cons, RE hE, hE, hc, lk.A, lk.B]
    refine gK_any fun c hc2 => ?_
    have neg : c = true → fr < 0 := by rintro rfl; simpa using hc2
    cases c
    · simp -implicitDefEqProofs only [Nat.reduceEqDiff, Nat.reduceLT, Nat.reduceBEq, reduceCtorEq, Nat.reduceAdd, Nat.reduceMod, Nat.reduceMul, Nat.reduceLeDiff, Nat.reduceSub, Int.reduceLT, Int.reduceLE, Int.reduceEq, Int.reduceNe, RR0, RR1, RR2, RR3, RR4, RR5, RR6, cond_true, cond_false, if_true, if_false, beq_self_eq_true, List.length_cons, List.length_nil, List.append_nil, List.nil_append, List.cons_append, List.take, List.drop, List.take_zero, List.drop_zero, Option.map_some, List.head?_cons, RE hE, hE, hc2, lk.A, lk.B]
      refine wF_mono (ask_far _ _ _ _ _ _ _ _ _ k1 hk1 2 kid _ lk.i1 lk.K lk.r0 lk.r1 (.inl rfl)) ?_
      rintro _ y ⟨rfl, g⟩
      have lk := lk.grow g
      have F := g.get zw F
      have zw := Nat.lt_of_lt_of_le zw g.nx
      clear g
      simp -implicitDefEqProofs only [Nat.reduceEqDiff, Nat.reduceLT, Nat.reduceBEq, reduceCtorEq, Nat.reduceAdd, Nat.reduceMod, Nat.reduceMul, Nat.reduceLeDiff, Nat.reduceSub, Int.reduceLT, Int.reduceLE, Int.reduceEq, Int.reduceNe, RR0, RR1, RR2, RR3, RR4, RR5, RR6, cond_true, cond_false, if_true, if_false, beq_self_eq_true, List.length_cons, List.length_nil, List.append_nil, List.nil_append, List.cons_append, List.take, List.drop, List.take_zero, List.drop_zero, Option.map_some, List.head?_cons, RE hE, hE, lk.A, lk.B]
      refine wF_mono (ask_nil _ _ _ _ _ _ _ _ _ _ _) ?_
      rintro _ y ⟨rfl, g⟩
      have lk := lk.grow g
      have F := g.get zw F
      have zw := Nat.lt_of_lt_of_le zw g.nx
      clear g
      simp -implicitDefEqProofs only [Nat.reduceEqDiff, Nat.reduceLT, Nat.reduceBEq, reduceCtorEq, Nat.reduceAdd, Nat.reduceMod, Nat.reduceMul, Nat.reduceLeDiff, Nat.reduceSub, Int.reduceLT, Int.reduceLE, Int.reduceEq, Int.reduceNe, RR0, RR1, RR2, RR3, RR4, RR5, RR6, cond_true, cond_false, if_true, if_false, beq_self_eq_true, List.length_cons, List.length_nil, List.append_nil, List.nil_append, List.cons_append, List.take, List.drop, List.take_zero, List.drop_zero, Option.map_some, List.head?_cons, RE hE, hE, lk.A, lk.B]
      refine wF_mono (mail_nil _ _ _ _ _ _ _ _ _ _ _ _ _ _ _ _ _ _) ?_
      rintro _ y ⟨rfl, g⟩
      have lk := lk.grow g
      have F := g.get zw F
      have zw := Nat.lt_of_lt_of_le zw g.nx
      clear g
      simp -implicitDefEqProofs only [Nat.reduceEqDiff, Nat.reduceLT, Nat.reduceBEq, reduceCtorEq, Nat.reduceAdd, Nat.reduceMod, Nat.reduceMul, Nat.reduceLeDiff, Nat.reduceSub, Int.reduceLT, Int.reduceLE, Int.reduceEq, Int.reduceNe, RR0, RR1, RR2, RR3, RR4, RR5, RR6, cond_true, cond_false, if_true, if_false, beq_self_eq_true, List.length_cons, List.length_nil, List.append_nil, List.nil_append, List.cons_append, List.take, List.drop, List.take_zero, List.drop_zero, Option.map_some, List.head?_cons, RE hE, hE, lk.A, lk.B]
      refine wF_mono (open_nil _) ?_
      rintro _ y ⟨rfl, g⟩
      have lk := lk.grow g
      have F := g.get zw F
      have zw := Nat.lt_of_lt_of_le zw g.nx
      clear g
      simp -implicitDefEqProofs only [Nat.reduceEqDiff, Nat.reduceLT, Nat.reduceBEq, reduceCtorEq, Nat.reduceAdd, Nat.reduceMod, Nat.reduceMul, Nat.reduceLeDiff, Nat.reduceSub, Int.reduceLT, Int.reduceLE, Int.reduceEq, Int.reduceNe, RR0, RR1, RR2, RR3, RR4, RR5, RR6, cond_true, cond_false, if_true, if_false, beq_self_eq_true, List.length_cons, List.length_nil, List.append_nil, List.nil_append, List.cons_append, List.take, List.drop, List.take_zero, List.drop_zero, Option.map_some, List.head?_cons, RE hE, hE, lk.A, lk.B]
      refine wF_mono (waiting_nil _) ?_
      rintro _ y ⟨rfl, g⟩
      have lk := lk.grow g
      have F := g.get zw F
      have zw := Nat.lt_of_lt_of_le zw g.nx
      clear g
      simp -implicitDefEqProofs only [Nat.reduceEqDiff, Nat.reduceLT, Nat.reduceBEq, reduceCtorEq, Nat.reduceAdd, Nat.reduceMod, Nat.reduceMul, Nat.reduceLeDiff, Nat.reduceSub, Int.reduceLT, Int.reduceLE, Int.reduceEq, Int.reduceNe, RR0, RR1, RR2, RR3, RR4, RR5, RR6, cond_true, cond_false, if_true, if_false, beq_self_eq_true, List.length_cons, List.length_nil, List.append_nil, List.nil_append, List.cons_append, List.take, List.drop, List.take_zero, List.drop_zero, Option.map_some, List.head?_cons, RE hE, hE, lk.A, lk.B]
      refine wF_mono (pack_nil _) ?_
      rintro _ y ⟨rfl, g⟩
      have lk := lk.grow g
      have F := g.get zw F
      have zw := Nat.lt_of_lt_of_le zw g.nx
      clear g
      simp -implicitDefEqProofs only [Nat.reduceEqDiff, Nat.reduceLT, Nat.reduceBEq, reduceCtorEq, Nat.reduceAdd, Nat.reduceMod, Nat.reduceMul, Nat.reduceLeDiff, Nat.reduceSub, Int.reduceLT, Int.reduceLE, Int.reduceEq, Int.reduceNe, RR0, RR1, RR2, RR3, RR4, RR5, RR6, cond_true, cond_false, if_true, if_false, beq_self_eq_true, List.length_cons, List.length_nil, List.append_nil, List.nil_append, List.cons_append, List.take, List.drop, List.take_zero, List.drop_zero, Option.map_some, List.head?_cons, RE hE, hE, lk.A, lk.B, lk.C]
      rw [finQ_ret1 (by simp only [Tr.get_set]; rw [if_neg (by have := lk.N; have := lzn; omega)]; exact F)]
      have n2 : h.nx + 2 ≠ z.nx := by omega
      simp -implicitDefEqProofs only [Nat.reduceEqDiff, Nat.reduceLT, Nat.reduceBEq, reduceCtorEq, Nat.reduceAdd, Nat.reduceMod, Nat.reduceMul, Nat.reduceLeDiff, Nat.reduceSub, Int.reduceLT, Int.reduceLE, Int.reduceEq, Int.reduceNe, RR0, RR1, RR2, RR3, RR4, RR5, RR6, cond_true, cond_false, if_true, if_false, beq_self_eq_true, List.length_cons, List.length_nil, List.append_nil, List.nil_append, List.cons_append, List.take, List.drop, List.take_zero, List.drop_zero, Option.map_some, List.head?_cons, RE hE, hE, n2]
    · simp -implicitDefEqProofs only [Nat.reduceEqDiff, Nat.reduceLT, Nat.reduceBEq, reduceCtorEq, Nat.reduceAdd, Nat.reduceMod, Nat.reduceMul, Nat.reduceLeDiff, Nat.reduceSub, Int.reduceLT, Int.reduceLE, Int.reduceEq, Int.reduceNe, RR0, RR1, RR2, RR3, RR4, RR5, RR6, cond_true, cond_false, if_true, if_false, beq_self_eq_true, List.length_cons, List.length_nil, List.append_nil, List.nil_append, List.cons_append, List.take, List.drop, List.take_zero, List.drop_zero, Option.map_some, List.head?_cons, RE hE, hE, hc2, lk.A, lk.B]
      refine wF_mono (mail_far _ _ _ _ _ _ _ _ _ _ _ _ _ _ _ _ k2 k3 hk2 hk3 _ kid _ lk.i2 lk.i3 (neg rfl)) ?_
      rintro _ y ⟨rfl, g⟩
      have lk := lk.grow g
      have F := g.get zw F
      have zw := Nat.lt_of_lt_of_le zw g.nx
      clear g
      simp -implicitDefEqProofs only [Nat.reduceEqDiff, Nat.reduceLT, Nat.reduceBEq, reduceCtorEq, Nat.reduceAdd, Nat.reduceMod, Nat.reduceMul, Nat.reduceLeDiff, Nat.reduceSub, Int.reduceLT, Int.reduceLE, Int.reduceEq, Int.reduceNe, RR0, RR1, RR2, RR3, RR4, RR5, RR6, cond_true, cond_false, if_true, if_false, beq_self_eq_true, List.length_cons, List.length_nil, List.append_nil, List.nil_append, List.cons_append, List.take, List.drop, List.take_zero, List.drop_zero, Option.map_some, List.head?_cons, RE hE, hE, lk.A, lk.B]
      refine wF_mono (ask_far _ _ _ _ _ _ _ _ _ k1 hk1 2 kid _ lk.i1 lk.K lk.r0 lk.r1 (.inl rfl)) ?_
      rintro _ y ⟨rfl, g⟩
      have lk := lk.grow g
      have F := g.get zw F
      have zw := Nat.lt_of_lt_of_le zw g.nx
      clear g
      simp -implicitDefEqProofs only [Nat.reduceEqDiff, Nat.reduceLT, Nat.reduceBEq, reduceCtorEq, Nat.reduceAdd, Nat.reduceMod, Nat.reduceMul, Nat.reduceLeDiff, Nat.reduceSub, Int.reduceLT, Int.reduceLE, Int.reduceEq, Int.reduceNe, RR0, RR1, RR2, RR3, RR4, RR5, RR6, cond_true, cond_false, if_true, if_false, beq_self_eq_true, List.length_cons, List.length_nil, List.append_nil, List.nil_append, List.cons_append, List.take, List.drop, List.take_zero, List.drop_zero, Option.map_some, List.head?_cons, RE hE, hE, lk.A, lk.B]
      refine wF_mono (ask_nil _ _ _ _ _ _ _ _ _ _ _) ?_
      rintro _ y ⟨rfl, g⟩
      have lk := lk.grow g
      have F := g.get zw F
      have zw := Nat.lt_of_lt_of_le zw g.nx
      clear g
      simp -implicitDefEqProofs only [Nat.reduceEqDiff, Nat.reduceLT, Nat.reduceBEq, reduceCtorEq, Nat.reduceAdd, Nat.reduceMod, Nat.reduceMul, Nat.reduceLeDiff, Nat.reduceSub, Int.reduceLT, Int.reduceLE, Int.reduceEq, Int.reduceNe, RR0, RR1, RR2, RR3, RR4, RR5, RR6, cond_true, cond_false, if_true, if_false, beq_self_eq_true, List.length_cons, List.length_nil, List.append_nil, List.nil_append, List.cons_append, List.take, List.drop, List.take_zero, List.drop_zero, Option.map_some, List.head?_cons, RE hE, hE, lk.A, lk.B]
      refine wF_mono (mail_nil _ _ _ _ _ _ _ _ _ _ _ _ _ _ _ _ _ _) ?_
      rintro _ y ⟨rfl, g⟩
      have lk := lk.grow g
      have F := g.get zw F
      have zw := Nat.lt_of_lt_of_le zw g.nx
      clear g
      simp -implicitDefEqProofs only [Nat.reduceEqDiff, Nat.reduceLT, Nat.reduceBEq, reduceCtorEq, Nat.reduceAdd, Nat.reduceMod, Nat.reduceMul, Nat.reduceLeDiff, Nat.reduceSub, Int.reduceLT, Int.reduceLE, Int.reduceEq, Int.reduceNe, RR0, RR1, RR2, RR3, RR4, RR5, RR6, cond_true, cond_false, if_true, if_false, beq_self_eq_true, List.length_cons, List.length_nil, List.append_nil, List.nil_append, List.cons_append, List.take, List.drop, List.take_zero, List.drop_zero, Option.map_some, List.head?_cons, RE hE, hE, lk.A, lk.B]
      refine wF_mono (open_nil _) ?_
      rintro _ y ⟨rfl, g⟩
      have lk := lk.grow g
      have F := g.get zw F
      have zw := Nat.lt_of_lt_of_le zw g.nx
      clear g
      simp -implicitDefEqProofs only [Nat.reduceEqDiff, Nat.reduceLT, Nat.reduceBEq, reduceCtorEq, Nat.reduceAdd, Nat.reduceMod, Nat.reduceMul, Nat.reduceLeDiff, Nat.reduceSub, Int.reduceLT, Int.reduceLE, Int.reduceEq, Int.reduceNe, RR0, RR1, RR2, RR3, RR4, RR5, RR6, cond_true, cond_false, if_true, if_false, beq_self_eq_true, List.length_cons, List.length_nil, List.append_nil, List.nil_append, List.cons_append, List.take, List.drop, List.take_zero, List.drop_zero, Option.map_some, List.head?_cons, RE hE, hE, lk.A, lk.B]
      refine wF_mono (waiting_nil _) ?_
      rintro _ y ⟨rfl, g⟩
      have lk := lk.grow g
      have F := g.get zw F
      have zw := Nat.lt_of_lt_of_le zw g.nx
      clear g
      simp -implicitDefEqProofs only [Nat.reduceEqDiff, Nat.reduceLT, Nat.reduceBEq, reduceCtorEq, Nat.reduceAdd, Nat.reduceMod, Nat.reduceMul, Nat.reduceLeDiff, Nat.reduceSub, Int.reduceLT, Int.reduceLE, Int.reduceEq, Int.reduceNe, RR0, RR1, RR2, RR3, RR4, RR5, RR6, cond_true, cond_false, if_true, if_false, beq_self_eq_true, List.length_cons, List.length_nil, List.append_nil, List.nil_append, List.cons_append, List.take, List.drop, List.take_zero, List.drop_zero, Option.map_some, List.head?_cons, RE hE, hE, lk.A, lk.B]
      refine wF_mono (pack_nil _) ?_
      rintro _ y ⟨rfl, g⟩
      have lk := lk.grow g
      have F := g.get zw F
      have zw := Nat.lt_of_lt_of_le zw g.nx
      clear g
      simp -implicitDefEqProofs only [Nat.reduceEqDiff, Nat.reduceLT, Nat.reduceBEq, reduceCtorEq, Nat.reduceAdd, Nat.reduceMod, Nat.reduceMul, Nat.reduceLeDiff, Nat.reduceSub, Int.reduceLT, Int.reduceLE, Int.reduceEq, Int.reduceNe, RR0, RR1, RR2, RR3, RR4, RR5, RR6, cond_true, cond_false, if_true, if_false, beq_self_eq_true, List.length_cons, List.length_nil, List.append_nil, List.nil_append, List.cons_append, List.take, List.drop, List.take_zero, List.drop_zero, Option.map_some, List.head?_cons, RE hE, hE, lk.A, lk.B, lk.C]
      rw [finQ_ret1 (by simp only [Tr.get_set]; rw [if_neg (by have := lk.N; have := lzn; omega)]; exact F)]
      have n2 : h.nx + 2 ≠ z.nx := by omega
      simp -implicitDefEqProofs only [Nat.reduceEqDiff, Nat.reduceLT, Nat.reduceBEq, reduceCtorEq, Nat.reduceAdd, Nat.reduceMod, Nat.reduceMul, Nat.reduceLeDiff, Nat.reduceSub, Int.reduceLT, Int.reduceLE, Int.reduceEq, Int.reduceNe, RR0, RR1, RR2, RR3, RR4, RR5, RR6, cond_true, cond_false, if_true, if_false, beq_self_eq_true, List.length_cons, List.length_nil, List.append_nil, List.nil_append, List.cons_append, List.take, List.drop, List.take_zero, List.drop_zero, Option.map_some, List.head?_cons, RE hE, hE, n2]
  · simp -implicitDefEqProofs only [Nat.reduceEqDiff, Nat.reduceLT, Nat.reduceBEq, reduceCtorEq, Nat.reduceAdd, Nat.reduceMod, Nat.reduceMul, Nat.reduceLeDiff, Nat.reduceSub, Int.reduceLT, Int.reduceLE, Int.reduceEq, Int.reduceNe, RR0, RR1, RR2, RR3, RR4, RR5, RR6, cond_true, cond_false, if_true, if_false, beq_self_eq_true, List.length_cons, List.length_nil, List.append_nil, List.nil_append, List.cons_append, List.take, List.drop, List.take_zero, List.drop_zero, Option.map_some, List.head?_cons, RE hE, hE, hc, lk.A, lk.B]
    refine wF_mono (ask_far _ _ _ _ _ _ _ _ _ k1 hk1 0 kid _ lk.i1 lk.K lk.r0 lk.r1 (.inr ⟨rfl, odd rfl⟩)) ?_
    rintro _ y ⟨rfl, g⟩
    have lk := lk.grow g
    have F := g.get zw F
    have zw := Nat.lt_of_lt_of_le zw g.nx
    clear g
    simp -implicitDefEqProofs only [Nat.reduceEqDiff, Nat.reduceLT, Nat.reduceBEq, reduceCtorEq, Nat.reduceAdd, Nat.reduceMod, Nat.reduceMul, Nat.reduceLeDiff, Nat.reduceSub, Int.reduceLT, Int.reduceLE, Int.reduceEq, Int.reduceNe, RR0, RR1, RR2, RR3, RR4, RR5, RR6, cond_true, cond_false, if_true, if_false, beq_self_eq_true, List.length_cons, List.length_nil, List.append_nil, List.nil_append, List.cons_append, List.take, List.drop, List.take_zero, List.drop_zero, Option.map_some, List.head?_cons, RE hE, hE, lk.A, lk.B]
    refine gK_any fun c hc2 => ?_
    have neg : c = true → fr < 0 := by rintro rfl; simpa using hc2
    cases c
    · simp -implicitDefEqProofs only [Nat.reduceEqDiff, Nat.reduceLT, Nat.reduceBEq, reduceCtorEq, Nat.reduceAdd, Nat.reduceMod, Nat.reduceMul, Nat.reduceLeDiff, Nat.reduceSub, Int.reduceLT, Int.reduceLE, Int.reduceEq, Int.reduceNe, RR0, RR1, RR2, RR3, RR4, RR5, RR6, cond_true, cond_false, if_true, if_false, beq_self_eq_true, List.length_cons, List.length_nil, List.append_nil, List.nil_append, List.cons_append, List.take, List.drop, List.take_zero, List.drop_zero, Option.map_some, List.head?_cons, RE hE, hE, hc2, lk.A, lk.B]
      refine wF_mono (ask_far _ _ _ _ _ _ _ _ _ k1 hk1 2 kid _ lk.i1 lk.K lk.r0 lk.r1 (.inl rfl)) ?_
      rintro _ y ⟨rfl, g⟩
      have lk := lk.grow g
      have F := g.get zw F
      have zw := Nat.lt_of_lt_of_le zw g.nx
      clear g
      simp -implicitDefEqProofs only [Nat.reduceEqDiff, Nat.reduceLT, Nat.reduceBEq, reduceCtorEq, Nat.reduceAdd, Nat.reduceMod, Nat.reduceMul, Nat.reduceLeDiff, Nat.reduceSub, Int.reduceLT, Int.reduceLE, Int.reduceEq, Int.reduceNe, RR0, RR1, RR2, RR3, RR4, RR5, RR6, cond_true, cond_false, if_true, if_false, beq_self_eq_true, List.length_cons, List.length_nil, List.append_nil, List.nil_append, List.cons_append, List.take, List.drop, List.take_zero, List.drop_zero, Option.map_some, List.head?_cons, RE hE, hE, lk.A, lk.B]
      refine wF_mono (ask_nil _ _ _ _ _ _ _ _ _ _ _) ?_
      rintro _ y ⟨rfl, g⟩
      have lk := lk.grow g
      have F := g.get zw F
      have zw := Nat.lt_of_lt_of_le zw g.nx
      clear g
      simp -implicitDefEqProofs only [Nat.reduceEqDiff, Nat.reduceLT, Nat.reduceBEq, reduceCtorEq, Nat.reduceAdd, Nat.reduceMod, Nat.reduceMul, Nat.reduceLeDiff, Nat.reduceSub, Int.reduceLT, Int.reduceLE, Int.reduceEq, Int.reduceNe, RR0, RR1, RR2, RR3, RR4, RR5, RR6, cond_true, cond_false, if_true, if_false, beq_self_eq_true, List.length_cons, List.length_nil, List.append_nil, List.nil_append, List.cons_append, List.take, List.drop, List.take_zero, List.drop_zero, Option.map_some, List.head?_cons, RE hE, hE, lk.A, lk.B]
      refine wF_mono (mail_nil _ _ _ _ _ _ _ _ _ _ _ _ _ _ _ _ _ _) ?_
      rintro _ y ⟨rfl, g⟩
      have lk := lk.grow g
      have F := g.get zw F
      have zw := Nat.lt_of_lt_of_le zw g.nx
      clear g
      simp -implicitDefEqProofs only [Nat.reduceEqDiff, Nat.reduceLT, Nat.reduceBEq, reduceCtorEq, Nat.reduceAdd, Nat.reduceMod, Nat.reduceMul, Nat.reduceLeDiff, Nat.reduceSub, Int.reduceLT, Int.reduceLE, Int.reduceEq, Int.reduceNe, RR0, RR1, RR2, RR3, RR4, RR5, RR6, cond_true, cond_false, if_true, if_false, beq_self_eq_true, List.length_cons, List.length_nil, List.append_nil, List.nil_append, List.cons_append, List.take, List.drop, List.take_zero, List.drop_zero, Option.map_some, List.head?_cons, RE hE, hE, lk.A, lk.B]
      refine wF_mono (open_nil _) ?_
      rintro _ y ⟨rfl, g⟩
      have lk := lk.grow g
      have F := g.get zw F
      have zw := Nat.lt_of_lt_of_le zw g.nx
      clear g
      simp -implicitDefEqProofs only [Nat.reduceEqDiff, Nat.reduceLT, Nat.reduceBEq, reduceCtorEq, Nat.reduceAdd, Nat.reduceMod, Nat.reduceMul, Nat.reduceLeDiff, Nat.reduceSub, Int.reduceLT, Int.reduceLE, Int.reduceEq, Int.reduceNe, RR0, RR1, RR2, RR3, RR4, RR5, RR6, cond_true, cond_false, if_true, if_false, beq_self_eq_true, List.length_cons, List.length_nil, List.append_nil, List.nil_append, List.cons_append, List.take, List.drop, List.take_zero, List.drop_zero, Option.map_some, List.head?_cons, RE hE, hE, lk.A, lk.B]
      refine wF_mono (waiting_nil _) ?_
      rintro _ y ⟨rfl, g⟩
      have lk := lk.grow g
      have F := g.get zw F
      have zw := Nat.lt_of_lt_of_le zw g.nx
      clear g
      simp -implicitDefEqProofs only [Nat.reduceEqDiff, Nat.reduceLT, Nat.reduceBEq, reduceCtorEq, Nat.reduceAdd, Nat.reduceMod, Nat.reduceMul, Nat.reduceLeDiff, Nat.reduceSub, Int.reduceLT, Int.reduceLE, Int.reduceEq, Int.reduceNe, RR0, RR1, RR2, RR3, RR4, RR5, RR6, cond_true, cond_false, if_true, if_false, beq_self_eq_true, List.length_cons, List.length_nil, List.append_nil, List.nil_append, List.cons_append, List.take, List.drop, List.take_zero, List.drop_zero, Option.map_some, List.head?_cons, RE hE, hE, lk.A, lk.B]
      refine wF_mono (pack_nil _) ?_
      rintro _ y ⟨rfl, g⟩
      have lk := lk.grow g
      have F := g.get zw F
      have zw := Nat.lt_of_lt_of_le zw g.nx
      clear g
      simp -implicitDefEqProofs only [Nat.reduceEqDiff, Nat.reduceLT, Nat.reduceBEq, reduceCtorEq, Nat.reduceAdd, Nat.reduceMod, Nat.reduceMul, Nat.reduceLeDiff, Nat.reduceSub, Int.reduceLT, Int.reduceLE, Int.reduceEq, Int.reduceNe, RR0, RR1, RR2, RR3, RR4, RR5, RR6, cond_true, cond_false, if_true, if_false, beq_self_eq_true, List.length_cons, List.length_nil, List.append_nil, List.nil_append, List.cons_append, List.take, List.drop, List.take_zero, List.drop_zero, Option.map_some, List.head?_cons, RE hE, hE, lk.A, lk.B, lk.C]
      rw [finQ_ret1 (by simp only [Tr.get_set]; rw [if_neg (by have := lk.N; have := lzn; omega)]; exact F)]
      have n2 : h.nx + 2 ≠ z.nx := by omega
      simp -implicitDefEqProofs only [Nat.reduceEqDiff, Nat.reduceLT, Nat.reduceBEq, reduceCtorEq, Nat.reduceAdd, Nat.reduceMod, Nat.reduceMul, Nat.reduceLeDiff, Nat.reduceSub, Int.reduceLT, Int.reduceLE, Int.reduceEq, Int.reduceNe, RR0, RR1, RR2, RR3, RR4, RR5, RR6, cond_true, cond_false, if_true, if_false, beq_self_eq_true, List.length_cons, List.length_nil, List.append_nil, List.nil_append, List.cons_append, List.take, List.drop, List.take_zero, List.drop_zero, Option.map_some, List.head?_cons, RE hE, hE, n2]
    · simp -implicitDefEqProofs only [Nat.reduceEqDiff, Nat.reduceLT, Nat.reduceBEq, reduceCtorEq, Nat.reduceAdd, Nat.reduceMod, Nat.reduceMul, Nat.reduceLeDiff, Nat.reduceSub, Int.reduceLT, Int.reduceLE, Int.reduceEq, Int.reduceNe, RR0, RR1, RR2, RR3, RR4, RR5, RR6, cond_true, cond_false, if_true, if_false, beq_self_eq_true, List.length_cons, List.length_nil, List.append_nil, List.nil_append, List.cons_append, List.take, List.drop, List.take_zero, List.drop_zero, Option.map_some, List.head?_cons, RE hE, hE, hc2, lk.A, lk.B]
      refine wF_mono (mail_far _ _ _ _ _ _ _ _ _ _ _ _ _ _ _ _ k2 k3 hk2 hk3 _ kid _ lk.i2 lk.i3 (neg rfl)) ?_
      rintro _ y ⟨rfl, g⟩
      have lk := lk.grow g
      have F := g.get zw F
      have zw := Nat.lt_of_lt_of_le zw g.nx
      clear g
      simp -implicitDefEqProofs only [Nat.reduceEqDiff, Nat.reduceLT, Nat.reduceBEq, reduceCtorEq, Nat.reduceAdd, Nat.reduceMod, Nat.reduceMul, Nat.reduceLeDiff, Nat.reduceSub, Int.reduceLT, Int.reduceLE, Int.reduceEq, Int.reduceNe, RR0, RR1, RR2, RR3, RR4, RR5, RR6, cond_true, cond_false, if_true, if_false, beq_self_eq_true, List.length_cons, List.length_nil, List.append_nil, List.nil_append, List.cons_append, List.take, List.drop, List.take_zero, List.drop_zero, Option.map_some, List.head?_cons, RE hE, hE, lk.A, lk.B]
      refine wF_mono (ask_far _ _ _ _ _ _ _ _ _ k1 hk1 2 kid _ lk.i1 lk.K lk.r0 lk.r1 (.inl rfl)) ?_
      rintro _ y ⟨rfl, g⟩
      have lk := lk.grow g
      have F := g.get zw F
      have zw := Nat.lt_of_lt_of_le zw g.nx
      clear g
      simp -implicitDefEqProofs only [Nat.reduceEqDiff, Nat.reduceLT, Nat.reduceBEq, reduceCtorEq, Nat.reduceAdd, Nat.reduceMod, Nat.reduceMul, Nat.reduceLeDiff, Nat.reduceSub, Int.reduceLT, Int.reduceLE, Int.reduceEq, Int.reduceNe, RR0, RR1, RR2, RR3, RR4, RR5, RR6, cond_true, cond_false, if_true, if_false, beq_self_eq_true, List.length_cons, List.length_nil, List.append_nil, List.nil_append, List.cons_append, List.take, List.drop, List.take_zero, List.drop_zero, Option.map_some, List.head?_cons, RE hE, hE, lk.A, lk.B]
      refine wF_mono (ask_nil _ _ _ _ _ _ _ _ _ _ _) ?_
      rintro _ y ⟨rfl, g⟩
      have lk := lk.grow g
      have F := g.get zw F
      have zw := Nat.lt_of_lt_of_le zw g.nx
      clear g
      simp -implicitDefEqProofs only [Nat.reduceEqDiff, Nat.reduceLT, Nat.reduceBEq, reduceCtorEq, Nat.reduceAdd, Nat.reduceMod, Nat.reduceMul, Nat.reduceLeDiff, Nat.reduceSub, Int.reduceLT, Int.reduceLE, Int.reduceEq, Int.reduceNe, RR0, RR1, RR2, RR3, RR4, RR5, RR6, cond_true, cond_false, if_true, if_false, beq_self_eq_true, List.length_cons, List.length_nil, List.append_nil, List.nil_append, List.cons_append, List.take, List.drop, List.take_zero, List.drop_zero, Option.map_some, List.head?_cons, RE hE, hE, lk.A, lk.B]
      refine wF_mono (mail_nil _ _ _ _ _ _ _ _ _ _ _ _ _ _ _ _ _ _) ?_
      rintro _ y ⟨rfl, g⟩
      have lk := lk.grow g
      have F := g.get zw F
      have zw := Nat.lt_of_lt_of_le zw g.nx
      clear g
      simp -implicitDefEqProofs only [Nat.reduceEqDiff, Nat.reduceLT, Nat.reduceBEq, reduceCtorEq, Nat.reduceAdd, Nat.reduceMod, Nat.reduceMul, Nat.reduceLeDiff, Nat.reduceSub, Int.reduceLT, Int.reduceLE, Int.reduceEq, Int.reduceNe, RR0, RR1, RR2, RR3, RR4, RR5, RR6, cond_true, cond_false, if_true, if_false, beq_self_eq_true, List.length_cons, List.length_nil, List.append_nil, List.nil_append, List.cons_append, List.take, List.drop, List.take_zero, List.drop_zero, Option.map_some, List.head?_cons, RE hE, hE, lk.A, lk.B]
      refine wF_mono (open_nil _) ?_
      rintro _ y ⟨rfl, g⟩
      have lk := lk.grow g
      have F := g.get zw F
      have zw := Nat.lt_of_lt_of_le zw g.nx
      clear g
      simp -implicitDefEqProofs only [Nat.reduceEqDiff, Nat.reduceLT, Nat.reduceBEq, reduceCtorEq, Nat.reduceAdd, Nat.reduceMod, Nat.reduceMul, Nat.reduceLeDiff, Nat.reduceSub, Int.reduceLT, Int.reduceLE, Int.reduceEq, Int.reduceNe, RR0, RR1, RR2, RR3, RR4, RR5, RR6, cond_true, cond_false, if_true, if_false, beq_self_eq_true, List.length_cons, List.length_nil, List.append_nil, List.nil_append, List.cons_append, List.take, List.drop, List.take_zero, List.drop_zero, Option.map_some, List.head?_cons, RE hE, hE, lk.A, lk.B]
      refine wF_mono (waiting_nil _) ?_
      rintro _ y ⟨rfl, g⟩
      have lk := lk.grow g
      have F := g.get zw F
      have zw := Nat.lt_of_lt_of_le zw g.nx
      clear g
      simp -implicitDefEqProofs only [Nat.reduceEqDiff, Nat.reduceLT, Nat.reduceBEq, reduceCtorEq, Nat.reduceAdd, Nat.reduceMod, Nat.reduceMul, Nat.reduceLeDiff, Nat.reduceSub, Int.reduceLT, Int.reduceLE, Int.reduceEq, Int.reduceNe, RR0, RR1, RR2, RR3, RR4, RR5, RR6, cond_true, cond_false, if_true, if_false, beq_self_eq_true, List.length_cons, List.length_nil, List.append_nil, List.nil_append, List.cons_append, List.take, List.drop, List.take_zero, List.drop_zero, Option.map_some, List.head?_cons, RE hE, hE, lk.A, lk.B]
      refine wF_mono (pack_nil _) ?_
      rintro _ y ⟨rfl, g⟩
      have lk := lk.grow g
      have F := g.get zw F
      have zw := Nat.lt_of_lt_of_le zw g.nx
      clear g
      simp -implicitDefEqProofs only [Nat.reduceEqDiff, Nat.reduceLT, Nat.reduceBEq, reduceCtorEq, Nat.reduceAdd, Nat.reduceMod, Nat.reduceMul, Nat.reduceLeDiff, Nat.reduceSub, Int.reduceLT, Int.reduceLE, Int.reduceEq, Int.reduceNe, RR0, RR1, RR2, RR3, RR4, RR5, RR6, cond_true, cond_false, if_true, if_false, beq_self_eq_true, List.length_cons, List.length_nil, List.append_nil, List.nil_append, List.cons_append, List.take, List.drop, List.take_zero, List.drop_zero, Option.map_some, List.head?_cons, RE hE, hE, lk.A, lk.B, lk.C]
      rw [finQ_ret1 (by simp only [Tr.get_set]; rw [if_neg (by have := lk.N; have := lzn; omega)]; exact F)]
      have n2 : h.nx + 2 ≠ z.nx := by omega
      simp -implicitDefEqProofs only [Nat.reduceEqDiff, Nat.reduceLT, Nat.reduceBEq, reduceCtorEq, Nat.reduceAdd, Nat.reduceMod, Nat.reduceMul, Nat.reduceLeDiff, Nat.reduceSub, Int.reduceLT, Int.reduceLE, Int.reduceEq, Int.reduceNe, RR0, RR1, RR2, RR3, RR4, RR5, RR6, cond_true, cond_false, if_true, if_false, beq_self_eq_true, List.length_cons, List.length_nil, List.append_nil, List.nil_append, List.cons_append, List.take, List.drop, List.take_zero, List.drop_zero, Option.map_some, List.head?_cons, RE hE, hE, n2]
end Go.Proofs.YtmlfcopllfdjfaaGreat.Am
