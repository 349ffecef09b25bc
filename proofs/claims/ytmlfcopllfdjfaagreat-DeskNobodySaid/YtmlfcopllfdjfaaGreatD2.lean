/- Walks through the functions that the law reaches: part D2. -/
import Derived.Test.YtmlfcopllfdjfaaGreatD1
namespace Go.Proofs.YtmlfcopllfdjfaaGreat.Am
open Dn

def countMay (n : Int) : Bool := decide (0 ≤ n) && decide (n ≤ 1099511627776)
def mayGo : List (List Nat × Int) → List Nat → Bool
  | [], _ => true
  | x :: l, last => good x.1 && decide (1 ≤ x.2) && countMay x.2 && !(slt x.1 last || seq x.1 last) && mayGo l x.1
def mayV (l : List (List Nat × Int)) : Bool := mayGo l [] && decide (l.length ≤ 16)

theorem Items.cells {h : AH} {v : AV} {l : List (List Nat × Int)} (s : Items h v l) : v.cells = [v] ∧ oneCell v = true := by
  rcases s with ⟨rfl, rfl⟩ | ⟨rfl, rfl⟩ | ⟨id, off, cap, rfl, _⟩ <;> exact ⟨rfl, rfl⟩

structure MayI (h h1 : AH) (l : List (List Nat × Int)) (i : Nat) (h' : AH) : Prop where
  g : Grow h h'
  gn : h.nx + 5 ≤ h'.nx
  b0 : h'.o.get h.nx = h1.o.get h.nx
  b2 : h'.o.get (h.nx + 2) = h1.o.get (h.nx + 2)
  b3 : h'.o.get (h.nx + 3) = h1.o.get (h.nx + 3)
  b4 : h'.o.get (h.nx + 4) = h1.o.get (h.nx + 4)
  r : ∃ last d3 t3, mayGo (l.drop i) last = mayGo l [] ∧ h'.o.get (h.nx + 1) = some (.cells 1 false false 1 d3 t3) ∧ cgets 1 1 d3 t3 0 1 = some [.s last]

structure MayS (h h1 : AH) (l : List (List Nat × Int)) (h' : AH) : Prop where
  bad : mayGo l [] = false
  g : Grow h h'
  b0 : ∃ t2, h'.o.get h.nx = some (.cells 1 false false 1 [.b false] t2) ∧ cgets 1 1 [.b false] t2 0 1 = some [.b false]
  b3 : h'.o.get (h.nx + 3) = h1.o.get (h.nx + 3)
  b4 : ∃ n t ps asg body df, h'.o.get (h.nx + 4) = some (.loop .done .ret n t ps asg body df)

theorem cgets_one {d : List AV} {t : Tr AV} {v : AV} : cgets 1 1 d (t.set 0 v) 0 1 = some [v] := by simp [cgets, cget, Tr.get_set, nblt]

set_option maxRecDepth 100000 in
set_option linter.unusedSimpArgs false in
theorem may_spec {v : AV} {l : List (List Nat × Int)} (hlen : l.length ≤ 9223372036854775807) {h : AH} (hi : Items h v l) : wF E 78 [v] h fun v h' => v = .b (mayV l) ∧ Grow h h' := by
  obtain ⟨hc1, hc2⟩ := hi.cells
  refine enter (af := f78) rfl rfl rfl ?_
  simp -implicitDefEqProofs only [Nat.reduceEqDiff, Nat.reduceLT, Nat.reduceBEq, reduceCtorEq, Nat.reduceAdd, Nat.reduceMod, Nat.reduceMul, Nat.reduceLeDiff, Nat.reduceSub, Int.reduceLT, Int.reduceLE, Int.reduceEq, Int.reduceNe, RR0, RR1, RR2, RR3, RR4, RR5, RR6, cond_true, cond_false, if_true, if_false, beq_self_eq_true, List.length_cons, List.length_nil, List.append_nil, List.nil_append, List.cons_append, List.take, List.drop, List.take_zero, List.drop_zero, Option.map_some, List.head?_cons, RE hE, hE, f78]
  refine enter (af := f97) rfl rfl rfl ?_
  simp -implicitDefEqProofs only [Nat.reduceEqDiff, Nat.reduceLT, Nat.reduceBEq, reduceCtorEq, Nat.reduceAdd, Nat.reduceMod, Nat.reduceMul, Nat.reduceLeDiff, Nat.reduceSub, Int.reduceLT, Int.reduceLE, Int.reduceEq, Int.reduceNe, RR0, RR1, RR2, RR3, RR4, RR5, RR6, cond_true, cond_false, if_true, if_false, beq_self_eq_true, List.length_cons, List.length_nil, List.append_nil, List.nil_append, List.cons_append, List.take, List.drop, List.take_zero, List.drop_zero, Option.map_some, List.head?_cons, RE hE, hE, f97, hc1]
  refine wE_rf0 rfl (g := 156) (first := []) (cap := [.p (h.nx + 2) 0]) (by simp [ev_set]) ?_
  simp -implicitDefEqProofs only [List.nil_append, List.cons_append, Nat.add_assoc, Nat.reduceAdd]
  refine wF_heap fun h1 hh1 => ?_
  have hG1 : Grow h h1 := by rw [hh1]; exact ⟨Nat.le_add_right _ _, fun i hi => by simp only [Tr.get_set]; rw [if_neg (by omega), if_neg (by omega), if_neg (by omega), if_neg (by omega), if_neg (by omega), if_neg (by omega)]⟩
  have a0 : h1.o.get h.nx = some (.cells 1 false false 1 [.b false] .e) := by rw [hh1]; simp [Tr.get_set]
  have a1 : h1.o.get (h.nx + 1) = some (.cells 1 false false 1 [.s []] (Tr.e.set 0 (.s []))) := by rw [hh1]; simp [Tr.get_set]
  have a2 : h1.o.get (h.nx + 2) = some (.cells 1 false false 1 [v] .e) := by rw [hh1]; simp [Tr.get_set]
  have a3 : h1.o.get (h.nx + 3) = some (.dfr false) := by rw [hh1]; simp [Tr.get_set]
  have an : h1.nx = h.nx + 5 := by rw [hh1]
  have a4 : h1.o.get (h.nx + 4) = h1.o.get (h.nx + 4) := rfl
  conv at a4 => rhs; rw [hh1]
  simp only [Tr.get_set, if_true, Nat.add_left_cancel_iff, Nat.reduceEqDiff, if_false, Nat.add_eq_left] at a4
  clear hh1
  refine all_rule (v := v) hlen (MayI h h1 l) (MayS h h1 l) ?_ ?_ ?_ ?_ ?_
  · rintro i h' ⟨g, _, _, b2, _⟩
    exact ⟨hi.grow g, by rw [b2, a2]; rfl⟩
  · rintro i h' h'' ⟨g, gn, b0, b2, b3, b4, last, d3, t3, q1, q2, q3⟩ gg
    exact ⟨g.trans gg, Nat.le_trans gn gg.nx, (gg.old _ (by omega)).trans b0, (gg.old _ (by omega)).trans b2, (gg.old _ (by omega)).trans b3, (gg.old _ (by omega)).trans b4, last, d3, t3, q1, (gg.old _ (by omega)).trans q2, q3⟩
  · rintro i x h' hx ⟨g, gn, b0, b2, b3, b4, last, d3, t3, q1, q2, q3⟩
    rw [a4] at b4
    refine wY_round b4 rfl (by simp) (wC_E ?_)
    simp -implicitDefEqProofs only [Nat.reduceEqDiff, Nat.reduceLT, Nat.reduceBEq, reduceCtorEq, Nat.reduceAdd, Nat.reduceMod, Nat.reduceMul, Nat.reduceLeDiff, Nat.reduceSub, Int.reduceLT, Int.reduceLE, Int.reduceEq, Int.reduceNe, RR0, RR1, RR2, RR3, RR4, RR5, RR6, cond_true, cond_false, if_true, if_false, beq_self_eq_true, List.length_cons, List.length_nil, List.append_nil, List.nil_append, List.cons_append, List.take, List.drop, List.take_zero, List.drop_zero, Option.map_some, List.head?_cons, RE hE, hE]
    refine asgQ_norm b4 ?_
    simp -implicitDefEqProofs only [Nat.reduceEqDiff, Nat.reduceLT, Nat.reduceBEq, reduceCtorEq, Nat.reduceAdd, Nat.reduceMod, Nat.reduceMul, Nat.reduceLeDiff, Nat.reduceSub, Int.reduceLT, Int.reduceLE, Int.reduceEq, Int.reduceNe, RR0, RR1, RR2, RR3, RR4, RR5, RR6, cond_true, cond_false, if_true, if_false, beq_self_eq_true, List.length_cons, List.length_nil, List.append_nil, List.nil_append, List.cons_append, List.take, List.drop, List.take_zero, List.drop_zero, Option.map_some, List.head?_cons, RE hE, hE]
    refine wF_mono (good_spec _ _) ?_
    rintro _ h2 ⟨rfl, hg2⟩
    have c4 := hg2.old (h.nx + 4) (by show _ < h'.nx; omega)
    have c3 := hg2.old (h.nx + 3) (by show _ < h'.nx; omega)
    have c2 := hg2.old (h.nx + 2) (by show _ < h'.nx; omega)
    have c1 := hg2.old (h.nx + 1) (by show _ < h'.nx; omega)
    have c0 := hg2.old h.nx (by show _ < h'.nx; omega)
    have hn2 : h'.nx ≤ h2.nx := hg2.nx
    simp only [Tr.get_set, if_true, Nat.add_left_cancel_iff, Nat.left_eq_add, Nat.add_eq_left, Nat.reduceEqDiff, if_false, q2, b0, b2, b3, a0] at c4 c3 c2 c1 c0
    have hgg : ∀ (o : Tr AO), (∀ j, j < h.nx → o.get j = h2.o.get j) → Grow h ⟨h2.nx, o⟩ := fun o hj => ⟨by show h.nx ≤ h2.nx; omega, fun j hj' => by
      show o.get j = _
      rw [hj j hj', hg2.old j (by show _ < h'.nx; omega), Tr.get_set, if_neg (by omega)]; exact g.old j hj'⟩
    have hil : i < l.length := by
      rcases Nat.lt_or_ge i l.length with h | h
      · exact h
      · rw [List.getElem?_eq_none h] at hx; cases hx
    have hdr : l.drop i = x :: l.drop (i + 1) := by
      rw [List.drop_eq_getElem_cons hil]
      rw [List.getElem?_eq_getElem hil] at hx; cases hx; rfl
    rw [hdr] at q1
    simp only [mayGo, countMay] at q1
    generalize hb1 : good x.1 = d1 at q1 ⊢
    have q1' : decide (1 ≤ x.2) = !decide (x.2 < 1) := by
      by_cases hh : x.2 < 1
      · rw [decide_eq_true hh, decide_eq_false (by omega)]; rfl
      · rw [decide_eq_false hh, decide_eq_true (by omega)]; rfl
    rw [q1'] at q1
    generalize hb2 : decide (x.2 < 1) = d2 at q1
    generalize hb4 : decide (0 ≤ x.2) = d4 at q1
    generalize hb5 : decide (x.2 ≤ 1099511627776) = d5 at q1
    generalize hb6 : (slt x.1 last || seq x.1 last) = d6 at q1
    have bad : ∀ fr, mayGo l [] = false → roundQ (h.nx + 4) (fun b h' => b = .b true ∧ MayI h h1 l (i + 1) h' ∨ b = .b false ∧ MayS h h1 l h') .ret fr ⟨h2.nx, h2.o.set h.nx (.cells 1 false false 1 [.b false] (Tr.e.set 0 (.b false)))⟩ := fun fr hb => by
      refine roundQ_ret (by simp only [Tr.get_set]; rw [if_neg (by omega)]; exact c4) (.inr ⟨rfl, hb, hgg _ fun j hj => ?_, ⟨Tr.e.set 0 (.b false), ?_, cgets_one⟩, ?_, ?_⟩)
      · simp only [Tr.get_set]; rw [if_neg (by omega), if_neg (by omega)]
      · simp only [Tr.get_set]; rw [if_neg (by omega)]; simp only [if_true]
      · simp only [Tr.get_set]; rw [if_neg (by omega), if_neg (by omega)]; exact c3
      · exact ⟨_, _, _, _, _, _, by simp only [Tr.get_set, if_true]; rfl⟩
    cases d1
    · simp -implicitDefEqProofs only [Nat.reduceEqDiff, Nat.reduceLT, Nat.reduceBEq, reduceCtorEq, Nat.reduceAdd, Nat.reduceMod, Nat.reduceMul, Nat.reduceLeDiff, Nat.reduceSub, Int.reduceLT, Int.reduceLE, Int.reduceEq, Int.reduceNe, RR0, RR1, RR2, RR3, RR4, RR5, RR6, cond_true, cond_false, if_true, if_false, beq_self_eq_true, List.length_cons, List.length_nil, List.append_nil, List.nil_append, List.cons_append, List.take, List.drop, List.take_zero, List.drop_zero, Option.map_some, List.head?_cons, RE hE, hE, c0]
      exact bad _ (by simpa using q1.symm)
    · cases d2
      · simp -implicitDefEqProofs only [Nat.reduceEqDiff, Nat.reduceLT, Nat.reduceBEq, reduceCtorEq, Nat.reduceAdd, Nat.reduceMod, Nat.reduceMul, Nat.reduceLeDiff, Nat.reduceSub, Int.reduceLT, Int.reduceLE, Int.reduceEq, Int.reduceNe, RR0, RR1, RR2, RR3, RR4, RR5, RR6, cond_true, cond_false, if_true, if_false, beq_self_eq_true, List.length_cons, List.length_nil, List.append_nil, List.nil_append, List.cons_append, List.take, List.drop, List.take_zero, List.drop_zero, Option.map_some, List.head?_cons, RE hE, hE, hb2]
        refine enter (af := f139) rfl rfl rfl ?_
        cases d4
        · simp -implicitDefEqProofs only [Nat.reduceEqDiff, Nat.reduceLT, Nat.reduceBEq, reduceCtorEq, Nat.reduceAdd, Nat.reduceMod, Nat.reduceMul, Nat.reduceLeDiff, Nat.reduceSub, Int.reduceLT, Int.reduceLE, Int.reduceEq, Int.reduceNe, RR0, RR1, RR2, RR3, RR4, RR5, RR6, cond_true, cond_false, if_true, if_false, beq_self_eq_true, List.length_cons, List.length_nil, List.append_nil, List.nil_append, List.cons_append, List.take, List.drop, List.take_zero, List.drop_zero, Option.map_some, List.head?_cons, RE hE, hE, f139, hb4, c0]
          exact bad _ (by simpa using q1.symm)
        · cases d5
          · simp -implicitDefEqProofs only [Nat.reduceEqDiff, Nat.reduceLT, Nat.reduceBEq, reduceCtorEq, Nat.reduceAdd, Nat.reduceMod, Nat.reduceMul, Nat.reduceLeDiff, Nat.reduceSub, Int.reduceLT, Int.reduceLE, Int.reduceEq, Int.reduceNe, RR0, RR1, RR2, RR3, RR4, RR5, RR6, cond_true, cond_false, if_true, if_false, beq_self_eq_true, List.length_cons, List.length_nil, List.append_nil, List.nil_append, List.cons_append, List.take, List.drop, List.take_zero, List.drop_zero, Option.map_some, List.head?_cons, RE hE, hE, f139, hb4, hb5, c0]
            exact bad _ (by simpa using q1.symm)
          · have c1l : hloadO (h2.o.get (h.nx + 1)) 0 1 = some [.s last] := by rw [c1]; exact q3
            cases d6
            · simp -implicitDefEqProofs only [Nat.reduceEqDiff, Nat.reduceLT, Nat.reduceBEq, reduceCtorEq, Nat.reduceAdd, Nat.reduceMod, Nat.reduceMul, Nat.reduceLeDiff, Nat.reduceSub, Int.reduceLT, Int.reduceLE, Int.reduceEq, Int.reduceNe, RR0, RR1, RR2, RR3, RR4, RR5, RR6, cond_true, cond_false, if_true, if_false, beq_self_eq_true, List.length_cons, List.length_nil, List.append_nil, List.nil_append, List.cons_append, List.take, List.drop, List.take_zero, List.drop_zero, Option.map_some, List.head?_cons, RE hE, hE, f139, hb4, hb5, hb6, c1l]
              simp -implicitDefEqProofs only [Nat.reduceEqDiff, Nat.reduceLT, Nat.reduceBEq, reduceCtorEq, Nat.reduceAdd, Nat.reduceMod, Nat.reduceMul, Nat.reduceLeDiff, Nat.reduceSub, Int.reduceLT, Int.reduceLE, Int.reduceEq, Int.reduceNe, RR0, RR1, RR2, RR3, RR4, RR5, RR6, cond_true, cond_false, if_true, if_false, beq_self_eq_true, List.length_cons, List.length_nil, List.append_nil, List.nil_append, List.cons_append, List.take, List.drop, List.take_zero, List.drop_zero, Option.map_some, List.head?_cons, RE hE, hE, c1]
              refine roundQ_norm (by simp only [Tr.get_set]; rw [if_neg (by omega)]; exact c4) (.inl ⟨rfl, hgg _ fun j hj => ?_, ?_, ?_, ?_, ?_, ?_, x.1, d3, t3.set 0 (.s x.1), ?_, ?_, cgets_one⟩)
              · simp only [Tr.get_set]; rw [if_neg (by omega), if_neg (by omega)]
              · show h.nx + 5 ≤ h2.nx; omega
              · simp only [Tr.get_set]; rw [if_neg (by omega), if_neg (by omega)]; exact c0.trans a0.symm
              · simp only [Tr.get_set]; rw [if_neg (by omega), if_neg (by omega)]; exact c2
              · simp only [Tr.get_set]; rw [if_neg (by omega), if_neg (by omega)]; exact c3
              · simp only [Tr.get_set]; simp only [if_true]; exact a4.symm
              · simpa using q1
              · simp only [Tr.get_set]; rw [if_neg (by omega)]; simp only [if_true]
            · simp -implicitDefEqProofs only [Nat.reduceEqDiff, Nat.reduceLT, Nat.reduceBEq, reduceCtorEq, Nat.reduceAdd, Nat.reduceMod, Nat.reduceMul, Nat.reduceLeDiff, Nat.reduceSub, Int.reduceLT, Int.reduceLE, Int.reduceEq, Int.reduceNe, RR0, RR1, RR2, RR3, RR4, RR5, RR6, cond_true, cond_false, if_true, if_false, beq_self_eq_true, List.length_cons, List.length_nil, List.append_nil, List.nil_append, List.cons_append, List.take, List.drop, List.take_zero, List.drop_zero, Option.map_some, List.head?_cons, RE hE, hE, f139, hb4, hb5, hb6, c1l, c0]
              exact bad _ (by simpa using q1.symm)
      · simp -implicitDefEqProofs only [Nat.reduceEqDiff, Nat.reduceLT, Nat.reduceBEq, reduceCtorEq, Nat.reduceAdd, Nat.reduceMod, Nat.reduceMul, Nat.reduceLeDiff, Nat.reduceSub, Int.reduceLT, Int.reduceLE, Int.reduceEq, Int.reduceNe, RR0, RR1, RR2, RR3, RR4, RR5, RR6, cond_true, cond_false, if_true, if_false, beq_self_eq_true, List.length_cons, List.length_nil, List.append_nil, List.nil_append, List.cons_append, List.take, List.drop, List.take_zero, List.drop_zero, Option.map_some, List.head?_cons, RE hE, hE, hb2, c0]
        exact bad _ (by simpa using q1.symm)
  · refine ⟨hG1, by omega, rfl, rfl, rfl, rfl, [], _, _, by simp, a1, cgets_one⟩
  · rintro _ h' (⟨g, gn, b0, b2, b3, b4, last, d3, t3, q1, q2, q3⟩ | ⟨hbad, g, ⟨t2, b0, q⟩, b3, n, t, ps, asg, body, df, b4⟩)
    · rw [a4] at b4; rw [a0] at b0; rw [a3] at b3
      refine rfEnd_of b4 (by simp) ?_
      have hl := hi.len
      simp -implicitDefEqProofs only [Nat.reduceEqDiff, Nat.reduceLT, Nat.reduceBEq, reduceCtorEq, Nat.reduceAdd, Nat.reduceMod, Nat.reduceMul, Nat.reduceLeDiff, Nat.reduceSub, Int.reduceLT, Int.reduceLE, Int.reduceEq, Int.reduceNe, RR0, RR1, RR2, RR3, RR4, RR5, RR6, cond_true, cond_false, if_true, if_false, beq_self_eq_true, List.length_cons, List.length_nil, List.append_nil, List.nil_append, List.cons_append, List.take, List.drop, List.take_zero, List.drop_zero, Option.map_some, List.head?_cons, RE hE, hE, hl, b0, b3]
      rw [finQ_ret1 (by simp only [Tr.get_set]; rw [if_neg (by omega), if_neg (by omega)]; exact b3)]
      simp -implicitDefEqProofs only [Nat.reduceEqDiff, Nat.reduceLT, Nat.reduceBEq, reduceCtorEq, Nat.reduceAdd, Nat.reduceMod, Nat.reduceMul, Nat.reduceLeDiff, Nat.reduceSub, Int.reduceLT, Int.reduceLE, Int.reduceEq, Int.reduceNe, RR0, RR1, RR2, RR3, RR4, RR5, RR6, cond_true, cond_false, if_true, if_false, beq_self_eq_true, List.length_cons, List.length_nil, List.append_nil, List.nil_append, List.cons_append, List.take, List.drop, List.take_zero, List.drop_zero, Option.map_some, List.head?_cons, RE hE, hE]
      have hok : mayGo l [] = true := by rw [← q1, List.drop_eq_nil_of_le (Nat.le_refl _)]; rfl
      have : decide ((l.length : Int) ≤ 16) = decide (l.length ≤ 16) := decide_eq_decide.2 (by omega)
      exact ⟨by rw [mayV, hok, this]; rfl, ((Grow.putS g (Nat.le_add_right _ _)).putS (Nat.le_refl _)).putS (Nat.le_add_right _ _)⟩
    · rw [a3] at b3
      refine rfEnd_of b4 (by simp) ?_
      simp -implicitDefEqProofs only [Nat.reduceEqDiff, Nat.reduceLT, Nat.reduceBEq, reduceCtorEq, Nat.reduceAdd, Nat.reduceMod, Nat.reduceMul, Nat.reduceLeDiff, Nat.reduceSub, Int.reduceLT, Int.reduceLE, Int.reduceEq, Int.reduceNe, RR0, RR1, RR2, RR3, RR4, RR5, RR6, cond_true, cond_false, if_true, if_false, beq_self_eq_true, List.length_cons, List.length_nil, List.append_nil, List.nil_append, List.cons_append, List.take, List.drop, List.take_zero, List.drop_zero, Option.map_some, List.head?_cons, RE hE, hE, b0, b3]
      rw [finQ_ret1 (by simp only [Tr.get_set]; rw [if_neg (by omega)]; exact b3)]
      have b0l : hloadO (h'.o.get h.nx) 0 1 = some [.b false] := by rw [b0]; exact q
      simp -implicitDefEqProofs only [Nat.reduceEqDiff, Nat.reduceLT, Nat.reduceBEq, reduceCtorEq, Nat.reduceAdd, Nat.reduceMod, Nat.reduceMul, Nat.reduceLeDiff, Nat.reduceSub, Int.reduceLT, Int.reduceLE, Int.reduceEq, Int.reduceNe, RR0, RR1, RR2, RR3, RR4, RR5, RR6, cond_true, cond_false, if_true, if_false, beq_self_eq_true, List.length_cons, List.length_nil, List.append_nil, List.nil_append, List.cons_append, List.take, List.drop, List.take_zero, List.drop_zero, Option.map_some, List.head?_cons, RE hE, hE, b0l]
      exact ⟨by rw [mayV, hbad]; rfl, (Grow.putS g (Nat.le_add_right _ _)).putS (Nat.le_add_right _ _)⟩
end Go.Proofs.YtmlfcopllfdjfaaGreat.Am
