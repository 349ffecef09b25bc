/- Walks through the functions that the law reaches: part D0. -/
import Derived.Test.YtmlfcopllfdjfaaGreatAm39
import Derived.Test.YtmlfcopllfdjfaaGreatDnL1
namespace Go.Proofs.YtmlfcopllfdjfaaGreat.Am
open Dn

/-! ### Words of the program -/

def E : Env := ⟨Dn.env, closedExt [(15, true)], nofact⟩
theorem hE : E.fact = nofact := rfl

def goodC (c : Nat) : Bool := (decide (97 ≤ c) && decide (c ≤ 122)) || (decide (48 ≤ c) && decide (c ≤ 57)) || decide (c = 45)
def good (s : List Nat) : Bool := s.all goodC && decide (s ≠ []) && decide (s.length ≤ 16)

theorem rune_high (c : Nat) (l : List Nat) (h : ¬ c < 128) : 128 ≤ (rune (c :: l)).1 ∧ 1 ≤ (rune (c :: l)).2 := by
  unfold rune Lib.decodeN
  simp only [List.getD_cons_zero]
  rw [if_neg h]
  repeat' split
  all_goals simp only
  all_goals omega

theorem seq_nil (s : List Nat) : seq s [] = decide (s = []) := by cases s <;> simp [seq]

/-- The next rune of a text that is ranged over. -/
theorem nxt_cons {ρ : Rf → AV} {x : Rf} {id pos c : Nat} {rest : List Nat} {h : AH} (hx : ρ x = .p id 0) (hg : h.o.get id = some (.sit (c :: rest) pos)) :
    ∃ (u : Nat) (rest' done : List Nat) (pos' : Nat), (u < 128 → u = c ∧ done = [c]) ∧ (128 ≤ u → 128 ≤ c) ∧ rest'.length < (c :: rest).length ∧ c :: rest = done ++ rest' ∧
      xop ρ (.nxt true x) h = .ok (.v (.tp [.b true, .i .i64 pos, .i .i32 u])) ⟨h.nx, h.o.set id (.sit rest' pos')⟩ := by
  by_cases hc : c < 128
  · have hc' : Nat.blt c 128 = true := by simpa using hc
    refine ⟨c, rest, [c], pos + 1, fun _ => ⟨rfl, rfl⟩, fun h => by omega, by simp, by simp, ?_⟩
    simp only [xop, hx, hg, hc', natK_eq, hset_eq]
  · have hc' : Nat.blt c 128 = false := by rw [nblt]; exact decide_eq_false hc
    obtain ⟨h1, h2⟩ := rune_high c rest hc
    refine ⟨(rune (c :: rest)).1, (c :: rest).drop (rune (c :: rest)).2, (c :: rest).take (rune (c :: rest)).2, pos + (rune (c :: rest)).2, fun h => by omega, fun _ => by omega, ?_, (List.take_append_drop _ _).symm, ?_⟩
    · rw [List.length_drop]; simp only [List.length_cons]; omega
    · simp only [xop, hx, hg, hc', natK_eq, natsK_eq, hset_eq]

theorem nxt_nil {ρ : Rf → AV} {x : Rf} {id pos : Nat} {h : AH} (hx : ρ x = .p id 0) (hg : h.o.get id = some (.sit [] pos)) : xop ρ (.nxt true x) h = .ok (.v (.tp [.b false])) h := by
  simp only [xop, hx, hg]

set_option maxRecDepth 100000 in
set_option linter.unusedSimpArgs false in
theorem good_spec (s : List Nat) (h : AH) : wF E 113 [.s s] h fun v h' => v = .b (good s) ∧ Grow h h' := by
  refine enter (af := f113) rfl rfl rfl ?_
  simp -implicitDefEqProofs only [Nat.reduceEqDiff, Nat.reduceLT, Nat.reduceBEq, reduceCtorEq, Nat.reduceAdd, Nat.reduceMod, Nat.reduceMul, Nat.reduceLeDiff, Nat.reduceSub, Int.reduceLT, Int.reduceLE, Int.reduceEq, Int.reduceNe, RR0, RR1, RR2, RR3, RR4, RR5, RR6, cond_true, cond_false, if_true, if_false, beq_self_eq_true, List.length_cons, List.length_nil, List.append_nil, List.nil_append, List.cons_append, List.take, List.drop, List.take_zero, List.drop_zero, Option.map_some, List.head?_cons, RE hE, hE, f113]
  refine wE_loop (fun k fr h' => fr.n = 35 ∧ fr.d = [] ∧ ∃ rest done, rest.length = k ∧ s = done ++ rest ∧ done.all goodC = true ∧ ev fr.t (.t 0) = .s s ∧ ev fr.t (.t 6) = .p h.nx 0 ∧ (∃ pos, h'.o.get h.nx = some (.sit rest pos)) ∧ Grow h h') ?_ s.length _ _ ⟨rfl, rfl, s, [], rfl, rfl, rfl, by simp [ev_set, ev_args, argV], by simp [ev_set], ⟨0, by simp [Tr.get_set]⟩, .new (.refl _) _⟩
  rintro k ⟨ft, fn, fd, fr⟩ h' ⟨hn, hd, rest, done, hk, hs, hdn, e0, e6, ⟨pos, hg⟩, hG⟩
  simp only at hn hd e0 e6
  subst hn; subst hd
  refine wC_E ?_
  cases rest with
  | nil =>
    have hs' : s = done := by simpa using hs
    subst hs'
    generalize hb : seq s [] = b
    rw [seq_nil] at hb
    have h16 : decide ((s.length : Int) ≤ 16) = decide (s.length ≤ 16) := decide_eq_decide.2 (by omega)
    cases b
    · simp -implicitDefEqProofs only [Nat.reduceEqDiff, Nat.reduceLT, Nat.reduceBEq, reduceCtorEq, Nat.reduceAdd, Nat.reduceMod, Nat.reduceMul, Nat.reduceLeDiff, Nat.reduceSub, Int.reduceLT, Int.reduceLE, Int.reduceEq, Int.reduceNe, RR0, RR1, RR2, RR3, RR4, RR5, RR6, cond_true, cond_false, if_true, if_false, beq_self_eq_true, List.length_cons, List.length_nil, List.append_nil, List.nil_append, List.cons_append, List.take, List.drop, List.take_zero, List.drop_zero, Option.map_some, List.head?_cons, RE hE, hE, e0, e6, hg, hb, seq_nil]
      simp only [decide_eq_false_iff_not] at hb
      exact ⟨by simp [good, hdn, hb, h16], hG⟩
    · simp -implicitDefEqProofs only [Nat.reduceEqDiff, Nat.reduceLT, Nat.reduceBEq, reduceCtorEq, Nat.reduceAdd, Nat.reduceMod, Nat.reduceMul, Nat.reduceLeDiff, Nat.reduceSub, Int.reduceLT, Int.reduceLE, Int.reduceEq, Int.reduceNe, RR0, RR1, RR2, RR3, RR4, RR5, RR6, cond_true, cond_false, if_true, if_false, beq_self_eq_true, List.length_cons, List.length_nil, List.append_nil, List.nil_append, List.cons_append, List.take, List.drop, List.take_zero, List.drop_zero, Option.map_some, List.head?_cons, RE hE, hE, e0, e6, hg, hb, seq_nil]
      simp only [decide_eq_true_eq] at hb
      exact ⟨by simp [good, hb], hG⟩
  | cons c rest =>
    obtain ⟨u, rest', done', pos', hu, hu2, hlt, hs1, hst⟩ := nxt_cons (ρ := ev ft) e6 hg
    generalize hb1 : decide ((u : Int) < 97) = b1
    generalize hb2 : decide (122 < (u : Int)) = b2
    generalize hb3 : decide ((u : Int) < 48) = b3
    generalize hb4 : decide (57 < (u : Int)) = b4
    generalize hb5 : decide ((u : Int) = 45) = b5
    have key : (b1 = true ∨ b2 = true) ∧ (b3 = true ∨ b4 = true) ∧ b5 = false → good s = false := by
      rintro ⟨h1, h2, h3⟩
      have hbad : goodC c = false := by
        subst hb1 hb2 hb3 hb4 hb5
        simp only [decide_eq_true_eq, decide_eq_false_iff_not] at h1 h2 h3
        rcases Nat.lt_or_ge u 128 with hlt | hge
        · obtain ⟨rfl, _⟩ := hu hlt
          simp only [goodC, Bool.or_eq_false_iff, Bool.and_eq_false_iff, decide_eq_false_iff_not]
          omega
        · have := hu2 hge
          simp only [goodC, Bool.or_eq_false_iff, Bool.and_eq_false_iff, decide_eq_false_iff_not]
          omega
      simp [good, hs, hbad]
    have key2 : b1 = false ∧ b2 = false ∨ b3 = false ∧ b4 = false ∨ b5 = true → goodC c = true ∧ done' = [c] := by
      intro h1
      subst hb1 hb2 hb3 hb4 hb5
      simp only [decide_eq_true_eq, decide_eq_false_iff_not] at h1
      obtain ⟨rfl, h2⟩ := hu (by omega)
      refine ⟨?_, h2⟩
      simp only [goodC, Bool.or_eq_true, Bool.and_eq_true, decide_eq_true_eq]
      omega
    have next : b1 = false ∧ b2 = false ∨ b3 = false ∧ b4 = false ∨ b5 = true → ∃ k', k' < k ∧ ∃ rest done, List.length rest = k' ∧ s = done ++ rest ∧ done.all goodC = true ∧ rest = rest' := fun h1 =>
      let ⟨a, b⟩ := key2 h1
      ⟨rest'.length, by rw [← hk]; exact hlt, rest', done ++ done', rfl, by rw [hs, hs1, List.append_assoc], by rw [List.all_append, hdn, b]; simp [a], rfl⟩
    have hG2 : Grow h ⟨h'.nx, h'.o.set h.nx (.sit rest' pos')⟩ := hG.put (Nat.le_refl _) _
    simp only [wC_seq, wC_reg, wO_op, hE, xopE_nofact, hst]
    cases b1 <;> cases b2 <;> cases b3 <;> cases b4 <;> cases b5
    all_goals simp -implicitDefEqProofs only [Nat.reduceEqDiff, Nat.reduceLT, Nat.reduceBEq, reduceCtorEq, Nat.reduceAdd, Nat.reduceMod, Nat.reduceMul, Nat.reduceLeDiff, Nat.reduceSub, Int.reduceLT, Int.reduceLE, Int.reduceEq, Int.reduceNe, RR0, RR1, RR2, RR3, RR4, RR5, RR6, cond_true, cond_false, if_true, if_false, beq_self_eq_true, List.length_cons, List.length_nil, List.append_nil, List.nil_append, List.cons_append, List.take, List.drop, List.take_zero, List.drop_zero, Option.map_some, List.head?_cons, RE hE, hE, e0, e6, hb1, hb2, hb3, hb4, hb5]
    all_goals first
      | (obtain ⟨k', h1, r1, d1, h2, h3, h4, rfl⟩ := next (by simp); exact ⟨k', h1, _, d1, h2, h3, h4, ⟨pos', rfl⟩, hG2⟩)
      | (exact ⟨by rw [key (by simp)], hG2⟩)
end Go.Proofs.YtmlfcopllfdjfaaGreat.Am
