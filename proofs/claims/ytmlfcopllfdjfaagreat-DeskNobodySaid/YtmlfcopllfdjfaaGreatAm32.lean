/- An abstract machine for the program's code, and that it is sound: part Am32. -/
import Derived.Test.YtmlfcopllfdjfaaGreatAm31
namespace Go.Proofs.YtmlfcopllfdjfaaGreat.Am

/-! ### More fuel -/

def Le {α : Type} (r r' : Res α) : Prop := ∀ a h, r = .ok a h → r' = .ok a h

theorem Le.refl {α : Type} (r : Res α) : Le r r := fun _ _ e => e

theorem Le.bind {α β : Type} {r r' : Res α} {f f' : α → AH → Res β} (h1 : Le r r') (h2 : ∀ a h, Le (f a h) (f' a h)) : Le (r.bind f) (r'.bind f') := fun b h' e => by
  obtain ⟨a, h, e1, e2⟩ := bind_inv e
  rw [h1 a h e1]; exact h2 a h b h' e2

theorem bind_ok {α β : Type} {r : Res α} {f : α → AH → Res β} {a : α} {h : AH} (e : r = .ok a h) : r.bind f = f a h := by rw [e]; rfl

def Sub (C C' : AC → Fr → AH → Res (AJ × Fr)) : Prop := ∀ c fr h, Le (C c fr h) (C' c fr h)

theorem tmpsOf_le {α : Type} {c c' : Tr AV → Res α} (hc : ∀ t, Le (c t) (c' t)) : ∀ (l : List AV) (i : Nat) (t : Tr AV), Le (tmpsOf l i t c) (tmpsOf l i t c')
  | [], i, t => hc t
  | v :: l, i, t => by simp only [tmpsOf, Tr.setK_eq]; exact tmpsOf_le hc l _ _

theorem pset_le {α : Type} {n : Nat} {c c' : Tr AV → Res α} (hc : ∀ t, Le (c t) (c' t)) : ∀ (ps : List Nat) (l : List AV) (t : Tr AV), Le (pset n ps l t c) (pset n ps l t c')
  | [], [], t => hc t
  | [], _ :: _, t => .refl _
  | _ :: _, [], t => .refl _
  | p :: ps, v :: l, t => by
    simp only [pset, Tr.setK_eq]
    cases Nat.blt p n with
    | true => exact pset_le hc ps l _
    | false => exact .refl _

theorem putK_le {α : Type} {t : Tr AV} {n : Nat} {d : Option Nat} {v : AV} {c c' : Tr AV → Res α} (hc : ∀ t, Le (c t) (c' t)) : Le (putK t n d v c) (putK t n d v c') := by
  cases d with
  | none => exact hc t
  | some d =>
    simp only [putK, Tr.setK_eq]
    cases Nat.blt d n with
    | true => exact hc _
    | false => exact .refl _

section
variable {env : Env} {C C' : AC → Fr → AH → Res (AJ × Fr)}

theorem callF_le (hs : Sub C C') (f : Nat) (args : List AV) (h : AH) : Le (callF env C f args h) (callF env C' f args h) := by
  unfold callF
  cases env.ext f args h with
  | some x => exact .refl _
  | none =>
    cases env.fn f with
    | none => exact .refl _
    | some af =>
      simp only
      cases Nat.ble args.length af.n with
      | false => exact .refl _
      | true => exact tmpsOf_le (fun t => .bind (hs _ _ _) fun x h => .refl _) _ _ _

theorem roundF_le (hs : Sub C C') (l : Nat) (args : List AV) (h : AH) : Le (roundF C l args h) (roundF C' l args h) := by
  unfold roundF
  cases h.o.get l with
  | none => exact .refl _
  | some o =>
    cases o with
    | loop st pend n t ps asg body df =>
      refine pset_le (fun t => .bind (hs _ _ _) fun x h => ?_) _ _ _
      cases x.1 with
      | norm =>
        simp only
        cases h.o.get l with
        | none => exact .refl _
        | some o =>
          cases o with
          | loop st pend n t ps asg body df =>
            cases st with
            | ready =>
              simp only [hset_eq]
              exact .bind (hs _ _ _) fun x h => .refl _
            | _ => exact .refl _
          | _ => exact .refl _
      | exit i => exact .refl _
      | ret => exact .refl _
    | _ => exact .refl _

theorem doNx_le (hs : Sub C C') (x : Nx) (h : AH) : Le (doNx env C x h) (doNx env C' x h) := by
  cases x with
  | v a => exact .refl _
  | call f args => exact callF_le hs f args h
  | yld l args => exact roundF_le hs l args h

theorem aops_le (hs : Sub C C') (n : Nat) : ∀ (l : List AOper) (t : Tr AV) (h : AH), Le (aops env.fact (doNx env C) n l t h) (aops env.fact (doNx env C') n l t h)
  | [], t, h => .refl _
  | o :: l, t, h => by
    simp only [aops]
    cases want env.fact t o.g with
    | none => exact .refl _
    | some b =>
      cases b with
      | true => exact .bind (.bind (.refl _) fun x h => doNx_le hs x h) fun v h => putK_le fun t => aops_le hs n l t h
      | false => exact putK_le fun t => aops_le hs n l t h

theorem aplan_le (hs : Sub C C') (n id : Nat) : ∀ (l : List PI) (t : Tr AV) (h : AH), Le (aplan env.fact (doNx env C) n id l t h) (aplan env.fact (doNx env C') n id l t h)
  | [], t, h => .refl _
  | .op o :: l, t, h => by
    simp only [aplan]
    cases want env.fact t o.g with
    | none => exact .refl _
    | some b =>
      cases b with
      | true => exact .bind (.bind (.refl _) fun x h => doNx_le hs x h) fun v h => putK_le fun t => aplan_le hs n id l t h
      | false => exact putK_le fun t => aplan_le hs n id l t h
  | .fl o :: l, t, h => by
    simp only [aplan]
    cases want env.fact t o.g with
    | none => exact .refl _
    | some b =>
      cases b with
      | true =>
        simp only
        cases xopE env.fact (ev t) o.o ⟨id, h.o⟩ with
        | ok a h1 => cases a with
          | v a => exact putK_le fun t => aplan_le hs n id l t _
          | _ => exact .refl _
        | _ => exact .refl _
      | false => exact putK_le fun t => aplan_le hs n id l t h
  | .chk o :: l, t, h => by
    simp only [aplan]
    cases want env.fact t o.g with
    | none => exact .refl _
    | some b =>
      cases b with
      | true =>
        simp only
        cases xopE env.fact (ev t) o.o h with
        | ok a h1 => cases a with
          | v a => cases o.d with
            | none => exact .refl _
            | some d =>
              simp only
              cases veq a (ev t (.t d)) with
              | true => exact aplan_le hs n id l t h
              | false => exact .refl _
          | _ => exact .refl _
        | _ => exact .refl _
      | false => exact aplan_le hs n id l t h

theorem rfF_le (hs : Sub C C') (l : Nat) (x : AV) (h : AH) : Le (rfF env C l x h) (rfF env C' l x h) := by
  unfold rfF
  split
  · rw [listK_eq, listK_eq]; exact callF_le hs _ _ _
  · exact roundF_le hs _ _ _
  · exact .refl _

theorem enterK_le {fr : Fr} {ps : List Nat} {asg body : AC} {h : AH} {c c' : Nat → Fr → AH → Res (AJ × Fr)} (hc : ∀ l fr h, Le (c l fr h) (c' l fr h)) : Le (enterK fr ps asg body h c) (enterK fr ps asg body h c') := by
  unfold enterK
  cases fr.r with
  | none => simp only [hnew_eq]; exact hc _ _ _
  | some l0 =>
    simp only
    cases h.o.get l0 with
    | none => exact .refl _
    | some o => cases o with
      | loop => simp only [hnew_eq]; exact hc _ _ _
      | _ => exact .refl _

theorem stepC_le (hs : Sub C C') : Sub (stepC env C) (stepC env C') := fun c fr h => by
  cases c with
  | skip => exact .refl _
  | reg ops => exact .bind (aops_le hs _ _ _ _) fun t h => .refl _
  | drw ps => simp only [stepC, natK_eq]; exact .bind (aplan_le hs _ _ _ _ _) fun t h => .refl _
  | seq a b =>
    refine .bind (hs _ _ _) fun x h => ?_
    cases x.1 with
    | norm => exact hs _ _ _
    | _ => exact .refl _
  | cond x a b =>
    simp only [stepC]
    cases bval env.fact (ev fr.t x) with
    | none => exact .refl _
    | some q => cases q <;> exact hs _ _ _
  | blk id a => exact .bind (hs _ _ _) fun x h => .refl _
  | loop a =>
    refine .bind (hs _ _ _) fun x h => ?_
    cases x.1 with
    | norm => exact hs _ _ _
    | _ => exact .refl _
  | rf x ps asg body => simp only [stepC]; exact enterK_le fun l fr h => .bind (rfF_le hs _ _ _) fun _ h => .refl _
  | exit id => simp only [stepC]; exact .refl _
  | ret => simp only [stepC]; exact .refl _
  | bad w => simp only [stepC]; exact .refl _

theorem evalC_zero (c : AC) (fr : Fr) (h : AH) : evalC env 0 c fr h = .err 119 := by simp only [evalC]
theorem evalC_succ (n : Nat) : evalC env (n + 1) = stepC env (evalC env n) := by simp only [evalC]

theorem evalC_le (n : Nat) : Sub (evalC env n) (evalC env (n + 1)) := by
  induction n with
  | zero => intro c fr h a h' e; rw [evalC_zero] at e; cases e
  | succ n ih => rw [evalC_succ, evalC_succ (n + 1)]; exact stepC_le ih

theorem Sub.refl (C : AC → Fr → AH → Res (AJ × Fr)) : Sub C C := fun _ _ _ => .refl _

theorem Sub.trans {C C' C'' : AC → Fr → AH → Res (AJ × Fr)} (h1 : Sub C C') (h2 : Sub C' C'') : Sub C C'' := fun c fr h a h' e => h2 c fr h a h' (h1 c fr h a h' e)

theorem evalC_mono {n m : Nat} (h : n ≤ m) : Sub (evalC env n) (evalC env m) := by
  induction h with
  | refl => exact Sub.refl _
  | step _ ih => exact Sub.trans ih (evalC_le _)

end
end Go.Proofs.YtmlfcopllfdjfaaGreat.Am
