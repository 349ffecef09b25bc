/- Walks through the functions that the law reaches: part D1. -/
import Derived.Test.YtmlfcopllfdjfaaGreatD0
namespace Go.Proofs.YtmlfcopllfdjfaaGreat.Am
open Dn

/-- What a slice of items holds. -/
def Items (h : AH) (v : AV) (l : List (List Nat × Int)) : Prop :=
  (v = .nsl ∧ l = []) ∨ (v = .zs ∧ l = []) ∨ ∃ id off cap, v = .sl id off l.length cap ∧ id < h.nx ∧ ∀ (i : Nat) x, l[i]? = some x → hloadO (h.o.get id) (off + i * 2) 2 = some [.s x.1, .i .i64 x.2]

theorem hload_grow {h h' : AH} (g : Grow h h') {id off k : Nat} {r : List AV} (hid : id < h.nx) (e : hloadO (h.o.get id) off k = some r) : hloadO (h'.o.get id) off k = some r := by
  rw [g.old id hid]; exact e

theorem Items.grow {h h' : AH} (g : Grow h h') {v : AV} {l : List (List Nat × Int)} (s : Items h v l) : Items h' v l := by
  rcases s with s | s | ⟨id, off, cap, h1, h2, h3⟩
  · exact .inl s
  · exact .inr (.inl s)
  · exact .inr (.inr ⟨id, off, cap, h1, Nat.lt_of_lt_of_le h2 g.nx, fun i x hx => hload_grow g h2 (h3 i x hx)⟩)

theorem Items.len {h : AH} {v : AV} {l : List (List Nat × Int)} (s : Items h v l) : slLen v = some l.length := by
  rcases s with ⟨rfl, rfl⟩ | ⟨rfl, rfl⟩ | ⟨id, off, cap, rfl, _⟩ <;> rfl

theorem Items.at {h : AH} {v : AV} {l : List (List Nat × Int)} (s : Items h v l) {i : Nat} {x : List Nat × Int} (hi : l[i]? = some x) : ∃ id o, id < h.nx ∧ (∀ h, iaR h 2 v (.i .i64 i) = .ok (.v (.p id o)) h) ∧ hloadO (h.o.get id) o 2 = some [.s x.1, .i .i64 x.2] := by
  have hlt : i < l.length := by
    rcases Nat.lt_or_ge i l.length with h | h
    · exact h
    · rw [List.getElem?_eq_none h] at hi; cases hi
  rcases s with ⟨rfl, rfl⟩ | ⟨rfl, rfl⟩ | ⟨id, off, cap, rfl, h2, h3⟩
  · simp at hlt
  · simp at hlt
  · exact ⟨id, _, h2, fun h => iaR_sl hlt, h3 i x hi⟩

set_option maxRecDepth 100000 in
set_option linter.unusedSimpArgs false in
theorem all_rule {v : AV} {l : List (List Nat × Int)} {cid y : Nat} (hlen : l.length ≤ 9223372036854775807) (I : Nat → AH → Prop) (S : AH → Prop)
    (hc : ∀ i h, I i h → Items h v l ∧ hloadO (h.o.get cid) 0 1 = some [v]) (mono : ∀ i h h', I i h → Grow h h' → I i h')
    (step : ∀ i x h, l[i]? = some x → I i h → wY E y [.s x.1, .i .i64 x.2] h fun b h' => (b = .b true ∧ I (i + 1) h') ∨ (b = .b false ∧ S h'))
    {h : AH} (hI : I 0 h) {k : AV → AH → Prop} (hk : ∀ v h', I l.length h' ∨ S h' → k v h') : wF E 156 [.f (.yield y) [] [], .p cid 0] h k := by
  refine enter (af := f156) rfl rfl rfl ?_
  obtain ⟨h1, h2⟩ := hc 0 h hI
  have hl1 := h1.len
  simp -implicitDefEqProofs only [Nat.reduceEqDiff, Nat.reduceLT, Nat.reduceBEq, reduceCtorEq, Nat.reduceAdd, Nat.reduceMod, Nat.reduceMul, Nat.reduceLeDiff, Nat.reduceSub, Int.reduceLT, Int.reduceLE, Int.reduceEq, Int.reduceNe, RR0, RR1, RR2, RR3, RR4, RR5, RR6, cond_true, cond_false, if_true, if_false, beq_self_eq_true, List.length_cons, List.length_nil, List.append_nil, List.nil_append, List.cons_append, List.take, List.drop, List.take_zero, List.drop_zero, Option.map_some, List.head?_cons, RE hE, hE, f156, h2, hl1]
  refine wE_loop (fun m fr h' => fr.n = 19 ∧ fr.d = [] ∧ ev fr.t (.t 0) = .f (.yield y) [] [] ∧ ev fr.t (.t 5) = v ∧ ev fr.t (.t 6) = .i .i64 l.length ∧ ∃ i : Nat, i + m = l.length ∧ ev fr.t (.t 7) = .i .i64 i ∧ I i h') ?_ l.length _ _ ⟨rfl, rfl, by simp [ev_set, ev_args, argV], by simp [ev_set], by simp [ev_set], 0, by simp, by simp [ev_set], hI⟩
  rintro m ⟨ft, fn, fd, fr⟩ h' ⟨hn, hd, e0, e5, e6, i, him, e7, hI⟩
  simp only at hn hd e0 e5 e6 e7
  subst hn; subst hd
  refine wC_E ?_
  by_cases hi : i < l.length
  · have hx : l[i]? = some l[i] := by simp [hi]
    generalize l[i] = x at hx
    obtain ⟨g1, g2⟩ := hc i h' hI
    obtain ⟨id, o, hid, hia, hlo⟩ := g1.at hx
    have hb : decide ((i : Int) < l.length) = true := decide_eq_true (by omega)
    have hne : id ≠ h'.nx := by omega
    simp -implicitDefEqProofs only [Nat.reduceEqDiff, Nat.reduceLT, Nat.reduceBEq, reduceCtorEq, Nat.reduceAdd, Nat.reduceMod, Nat.reduceMul, Nat.reduceLeDiff, Nat.reduceSub, Int.reduceLT, Int.reduceLE, Int.reduceEq, Int.reduceNe, RR0, RR1, RR2, RR3, RR4, RR5, RR6, cond_true, cond_false, if_true, if_false, beq_self_eq_true, List.length_cons, List.length_nil, List.append_nil, List.nil_append, List.cons_append, List.take, List.drop, List.take_zero, List.drop_zero, Option.map_some, List.head?_cons, RE hE, hE, hb, e0, e5, e6, e7, hia, hlo, hne]
    refine wY_mono (step i x _ hx (mono _ _ _ hI (((Grow.refl h').new _).put (Nat.le_refl _) _))) ?_
    rintro b h2 (⟨rfl, hI2⟩ | ⟨rfl, hS⟩)
    · simp -implicitDefEqProofs only [Nat.reduceEqDiff, Nat.reduceLT, Nat.reduceBEq, reduceCtorEq, Nat.reduceAdd, Nat.reduceMod, Nat.reduceMul, Nat.reduceLeDiff, Nat.reduceSub, Int.reduceLT, Int.reduceLE, Int.reduceEq, Int.reduceNe, RR0, RR1, RR2, RR3, RR4, RR5, RR6, cond_true, cond_false, if_true, if_false, beq_self_eq_true, List.length_cons, List.length_nil, List.append_nil, List.nil_append, List.cons_append, List.take, List.drop, List.take_zero, List.drop_zero, Option.map_some, List.head?_cons, RE hE, hE, hb, e0, e5, e6, e7]
      have hw : IntKind.wrap .i64 ((i : Int) + 1) = ((i + 1 : Nat) : Int) := by rw [← Int.natCast_succ, wrap_nat (by omega)]
      exact ⟨m - 1, by omega, i + 1, by omega, by rw [hw], hI2⟩
    · simp -implicitDefEqProofs only [Nat.reduceEqDiff, Nat.reduceLT, Nat.reduceBEq, reduceCtorEq, Nat.reduceAdd, Nat.reduceMod, Nat.reduceMul, Nat.reduceLeDiff, Nat.reduceSub, Int.reduceLT, Int.reduceLE, Int.reduceEq, Int.reduceNe, RR0, RR1, RR2, RR3, RR4, RR5, RR6, cond_true, cond_false, if_true, if_false, beq_self_eq_true, List.length_cons, List.length_nil, List.append_nil, List.nil_append, List.cons_append, List.take, List.drop, List.take_zero, List.drop_zero, Option.map_some, List.head?_cons, RE hE, hE, hb, e0, e5, e6, e7]
      exact hk _ _ (.inr hS)
  · have hb : decide ((i : Int) < l.length) = false := decide_eq_false (by omega)
    simp -implicitDefEqProofs only [Nat.reduceEqDiff, Nat.reduceLT, Nat.reduceBEq, reduceCtorEq, Nat.reduceAdd, Nat.reduceMod, Nat.reduceMul, Nat.reduceLeDiff, Nat.reduceSub, Int.reduceLT, Int.reduceLE, Int.reduceEq, Int.reduceNe, RR0, RR1, RR2, RR3, RR4, RR5, RR6, cond_true, cond_false, if_true, if_false, beq_self_eq_true, List.length_cons, List.length_nil, List.append_nil, List.nil_append, List.cons_append, List.take, List.drop, List.take_zero, List.drop_zero, Option.map_some, List.head?_cons, RE hE, hE, hb, e0, e5, e6, e7]
    have : i = l.length := by omega
    exact hk _ _ (.inl (this ▸ hI))
end Go.Proofs.YtmlfcopllfdjfaaGreat.Am
