/- An abstract machine for the program's code, and that it is sound: part Am33. -/
import Derived.Test.YtmlfcopllfdjfaaGreatAm32
namespace Go.Proofs.YtmlfcopllfdjfaaGreat.Am

/-! ### What a run comes to -/

section
variable (env : Env)

def wE (c : AC) (fr : Fr) (h : AH) (Q : AJ → Fr → AH → Prop) : Prop := ∃ n j fr' h', evalC env n c fr h = .ok (j, fr') h' ∧ Q j fr' h'
def wF (f : Nat) (args : List AV) (h : AH) (k : AV → AH → Prop) : Prop := ∃ n v h', callF env (evalC env n) f args h = .ok v h' ∧ k v h'
def wY (l : Nat) (args : List AV) (h : AH) (k : AV → AH → Prop) : Prop := ∃ n v h', roundF (evalC env n) l args h = .ok v h' ∧ k v h'

def wNx (x : Nx) (h : AH) (k : AV → AH → Prop) : Prop := match x with
  | .v a => k a h
  | .call f args => wF env f args h k
  | .yld l args => wY env l args h k

def wX (r : Res Nx) (k : AV → AH → Prop) : Prop := match r with
  | .ok x h => wNx env x h k
  | _ => False

def wPut (N : Nat) (d : Option Nat) (v : AV) (t : Tr AV) (k : Tr AV → Prop) : Prop := match d with
  | none => k t
  | some d => d < N ∧ k (t.set d v)

def wO (N : Nat) : List AOper → Tr AV → AH → (Tr AV → AH → Prop) → Prop
  | [], t, h, Q => Q t h
  | o :: os, t, h, Q => match want env.fact t o.g with
    | some true => wX env (xopE env.fact (ev t) o.o h) fun v h => wPut N o.d v t fun t => wO N os t h Q
    | some false => wPut N o.d .un t fun t => wO N os t h Q
    | none => False

def wP (N id : Nat) : List PI → Tr AV → AH → (Tr AV → AH → Prop) → Prop
  | [], t, h, Q => Q t h
  | .op o :: os, t, h, Q => match want env.fact t o.g with
    | some true => wX env (xopE env.fact (ev t) o.o h) fun v h => wPut N o.d v t fun t => wP N id os t h Q
    | some false => wPut N o.d .un t fun t => wP N id os t h Q
    | none => False
  | .fl o :: os, t, h, Q => match want env.fact t o.g with
    | some true => (match xopE env.fact (ev t) o.o ⟨id, h.o⟩ with
        | .ok (.v v) h' => wPut N o.d v t fun t => wP N id os t ⟨h.nx, h'.o⟩ Q
        | _ => False)
    | some false => wPut N o.d .un t fun t => wP N id os t h Q
    | none => False
  | .chk o :: os, t, h, Q => match want env.fact t o.g with
    | some true => (match xopE env.fact (ev t) o.o h, o.d with
        | .ok (.v v) _, some d => veq v (ev t (.t d)) = true ∧ wP N id os t h Q
        | _, _ => False)
    | some false => wP N id os t h Q
    | none => False
end

section
variable {env : Env} {Q : AJ → Fr → AH → Prop} {fr : Fr} {h : AH}

theorem wPut_inv {N : Nat} {d : Option Nat} {v : AV} {t : Tr AV} {k : Tr AV → Prop} (w : wPut N d v t k) : ∃ t', k t' ∧ ∀ {α : Type} (c : Tr AV → Res α), putK t N d v c = c t' := by
  cases d with
  | none => exact ⟨t, w, fun c => rfl⟩
  | some d =>
    obtain ⟨h1, h2⟩ := w
    refine ⟨_, h2, fun c => ?_⟩
    have : Nat.blt d N = true := by simpa using h1
    simp only [putK, this, Tr.setK_eq]

theorem wX_inv {r : Res Nx} {k : AV → AH → Prop} (w : wX env r k) : ∃ n v h', r.bind (doNx env (evalC env n)) = .ok v h' ∧ k v h' := by
  unfold wX at w
  split at w
  · rename_i x h
    cases x with
    | v a => exact ⟨0, a, h, rfl, w⟩
    | call f args => obtain ⟨n, v, h', e, hk⟩ := w; exact ⟨n, v, h', e, hk⟩
    | yld l args => obtain ⟨n, v, h', e, hk⟩ := w; exact ⟨n, v, h', e, hk⟩
  · exact w.elim

theorem rbind_mono {r : Res Nx} {n m : Nat} (hm : n ≤ m) {v : AV} {h' : AH} (e : r.bind (doNx env (evalC env n)) = .ok v h') : r.bind (doNx env (evalC env m)) = .ok v h' :=
  Le.bind (.refl r) (fun x h => doNx_le (evalC_mono hm) x h) _ _ e

theorem wO_inv {N : Nat} {R : Tr AV → AH → Prop} : ∀ {ops : List AOper} {t : Tr AV} {h : AH}, wO env N ops t h R → ∃ n t' h', aops env.fact (doNx env (evalC env n)) N ops t h = .ok t' h' ∧ R t' h'
  | [], t, h, w => ⟨0, t, h, rfl, w⟩
  | o :: os, t, h, w => by
    simp only [wO] at w
    split at w
    · rename_i hw
      obtain ⟨n, v, h1, e1, w⟩ := wX_inv w
      obtain ⟨t1, w, hp⟩ := wPut_inv w
      obtain ⟨m, t', h', e2, hR⟩ := wO_inv w
      refine ⟨max n m, t', h', ?_, hR⟩
      simp only [aops, hw]
      rw [bind_ok (rbind_mono (Nat.le_max_left n m) e1), hp]
      exact aops_le (evalC_mono (Nat.le_max_right n m)) _ _ _ _ _ _ e2
    · rename_i hw
      obtain ⟨t1, w, hp⟩ := wPut_inv w
      obtain ⟨m, t', h', e2, hR⟩ := wO_inv w
      refine ⟨m, t', h', ?_, hR⟩
      simp only [aops, hw, hp]
      exact e2
    · exact w.elim

theorem wP_inv {N id : Nat} {R : Tr AV → AH → Prop} : ∀ {ops : List PI} {t : Tr AV} {h : AH}, wP env N id ops t h R → ∃ n t' h', aplan env.fact (doNx env (evalC env n)) N id ops t h = .ok t' h' ∧ R t' h'
  | [], t, h, w => ⟨0, t, h, rfl, w⟩
  | .op o :: os, t, h, w => by
    simp only [wP] at w
    split at w
    · rename_i hw
      obtain ⟨n, v, h1, e1, w⟩ := wX_inv w
      obtain ⟨t1, w, hp⟩ := wPut_inv w
      obtain ⟨m, t', h', e2, hR⟩ := wP_inv w
      refine ⟨max n m, t', h', ?_, hR⟩
      simp only [aplan, hw]
      rw [bind_ok (rbind_mono (Nat.le_max_left n m) e1), hp]
      exact aplan_le (evalC_mono (Nat.le_max_right n m)) _ _ _ _ _ _ _ e2
    · rename_i hw
      obtain ⟨t1, w, hp⟩ := wPut_inv w
      obtain ⟨m, t', h', e2, hR⟩ := wP_inv w
      refine ⟨m, t', h', ?_, hR⟩
      simp only [aplan, hw, hp]
      exact e2
    · exact w.elim
  | .fl o :: os, t, h, w => by
    simp only [wP] at w
    split at w
    · rename_i hw
      split at w
      · rename_i v h1 hx
        obtain ⟨t1, w, hp⟩ := wPut_inv w
        obtain ⟨m, t', h', e2, hR⟩ := wP_inv w
        refine ⟨m, t', h', ?_, hR⟩
        simp only [aplan, hw, hx, hp]
        exact e2
      · exact w.elim
    · rename_i hw
      obtain ⟨t1, w, hp⟩ := wPut_inv w
      obtain ⟨m, t', h', e2, hR⟩ := wP_inv w
      refine ⟨m, t', h', ?_, hR⟩
      simp only [aplan, hw, hp]
      exact e2
    · exact w.elim
  | .chk o :: os, t, h, w => by
    simp only [wP] at w
    split at w
    · rename_i hw
      split at w
      · rename_i v h1 d hx hd
        obtain ⟨hv, w⟩ := w
        obtain ⟨m, t', h', e2, hR⟩ := wP_inv w
        refine ⟨m, t', h', ?_, hR⟩
        simp only [aplan, hw, hx, hd, hv]
        exact e2
      · exact w.elim
    · rename_i hw
      obtain ⟨m, t', h', e2, hR⟩ := wP_inv w
      refine ⟨m, t', h', ?_, hR⟩
      simp only [aplan, hw]
      exact e2
    · exact w.elim

theorem wE_of_step {c : AC} {n : Nat} {j : AJ} {fr' : Fr} {h' : AH} (e : stepC env (evalC env n) c fr h = .ok (j, fr') h') (q : Q j fr' h') : wE env c fr h Q := ⟨n + 1, j, fr', h', e, q⟩

theorem wE_mono {c : AC} {Q' : AJ → Fr → AH → Prop} (w : wE env c fr h Q) (m : ∀ j fr h, Q j fr h → Q' j fr h) : wE env c fr h Q' := by
  obtain ⟨n, j, fr', h', e, q⟩ := w
  exact ⟨n, j, fr', h', e, m _ _ _ q⟩

theorem wE_skip (q : Q .norm fr h) : wE env .skip fr h Q := wE_of_step (n := 0) rfl q
theorem wE_exit {id : Nat} (q : Q (.exit id) fr h) : wE env (.exit id) fr h Q := wE_of_step (n := 0) rfl q
theorem wE_ret (q : Q .ret fr h) : wE env .ret fr h Q := wE_of_step (n := 0) rfl q

theorem wE_reg {ops : List AOper} (w : wO env fr.n ops fr.t h fun t h => Q .norm ⟨t, fr.n, fr.d, fr.r⟩ h) : wE env (.reg ops) fr h Q := by
  obtain ⟨n, t', h', e, q⟩ := wO_inv w
  refine wE_of_step (n := n) ?_ q
  simp only [stepC]
  rw [bind_ok e]

theorem wE_drw {ps : List PI} (w : wP env fr.n h.nx ps fr.t ⟨h.nx + 1, h.o⟩ fun t h => Q .norm ⟨t, fr.n, fr.d, fr.r⟩ h) : wE env (.drw ps) fr h Q := by
  obtain ⟨n, t', h', e, q⟩ := wP_inv w
  refine wE_of_step (n := n) ?_ q
  simp only [stepC, natK_eq]
  rw [bind_ok e]

/-- Behind the first of two. -/
def andThen (env : Env) (b : AC) (Q : AJ → Fr → AH → Prop) (j : AJ) (fr : Fr) (h : AH) : Prop := match j with
  | .norm => wE env b fr h Q
  | j => Q j fr h

theorem wE_seq {a b : AC} (w : wE env a fr h (andThen env b Q)) : wE env (.seq a b) fr h Q := by
  obtain ⟨n, j, fr', h', e, q⟩ := w
  cases j with
  | norm =>
    obtain ⟨m, j2, fr2, h2, e2, q2⟩ := q
    refine wE_of_step (n := max n m) ?_ q2
    simp only [stepC]
    rw [bind_ok (evalC_mono (Nat.le_max_left n m) _ _ _ _ _ e)]
    exact evalC_mono (Nat.le_max_right n m) _ _ _ _ _ e2
  | exit id => exact wE_of_step (n := n) (by simp only [stepC]; rw [bind_ok e]) q
  | ret => exact wE_of_step (n := n) (by simp only [stepC]; rw [bind_ok e]) q

theorem wE_cond {x : Rf} {a b : AC} {q : Bool} (hq : bval env.fact (ev fr.t x) = some q) (h1 : q = true → wE env a fr h Q) (h2 : q = false → wE env b fr h Q) : wE env (.cond x a b) fr h Q := by
  cases q with
  | true =>
    obtain ⟨n, j, fr', h', e, q⟩ := h1 rfl
    exact wE_of_step (n := n) (by simp only [stepC, hq]; exact e) q
  | false =>
    obtain ⟨n, j, fr', h', e, q⟩ := h2 rfl
    exact wE_of_step (n := n) (by simp only [stepC, hq]; exact e) q

/-- At the end of a block. -/
def blkEnd (id : Nat) (Q : AJ → Fr → AH → Prop) (j : AJ) (fr : Fr) (h : AH) : Prop := match j with
  | .norm => Q .norm fr h
  | .exit i => if i = id then Q .norm fr h else Q (.exit i) fr h
  | .ret => Q .ret fr h

theorem wE_blk {id : Nat} {a : AC} (w : wE env a fr h (blkEnd id Q)) : wE env (.blk id a) fr h Q := by
  obtain ⟨n, j, fr', h', e, q⟩ := w
  cases j with
  | norm => exact wE_of_step (n := n) (by simp only [stepC]; rw [bind_ok e]) q
  | ret => exact wE_of_step (n := n) (by simp only [stepC]; rw [bind_ok e]) q
  | exit i =>
    simp only [blkEnd] at q
    by_cases hi : i = id
    · subst hi
      rw [if_pos rfl] at q
      exact wE_of_step (n := n) (by simp only [stepC]; rw [bind_ok e]; simp only [Nat.beq_refl]) q
    · rw [if_neg hi] at q
      refine wE_of_step (n := n) ?_ q
      simp only [stepC]; rw [bind_ok e]
      have : Nat.beq i id = false := by
        cases hb : Nat.beq i id with
        | false => rfl
        | true => exact absurd (Nat.eq_of_beq_eq_true hb) hi
      simp only [this]

/-- At the end of a round of a loop. -/
def loopEndQ (env : Env) (a : AC) (Q : AJ → Fr → AH → Prop) (j : AJ) (fr : Fr) (h : AH) : Prop := match j with
  | .norm => wE env (.loop a) fr h Q
  | j => Q j fr h

theorem wE_loop1 {a : AC} (w : wE env a fr h (loopEndQ env a Q)) : wE env (.loop a) fr h Q := by
  obtain ⟨n, j, fr', h', e, q⟩ := w
  cases j with
  | norm =>
    obtain ⟨m, j2, fr2, h2, e2, q2⟩ := q
    refine wE_of_step (n := max n m) ?_ q2
    simp only [stepC]
    rw [bind_ok (evalC_mono (Nat.le_max_left n m) _ _ _ _ _ e)]
    exact evalC_mono (Nat.le_max_right n m) _ _ _ _ _ e2
  | exit id => exact wE_of_step (n := n) (by simp only [stepC]; rw [bind_ok e]) q
  | ret => exact wE_of_step (n := n) (by simp only [stepC]; rw [bind_ok e]) q

/-- Behind a round: the invariant at a smaller measure, or a way out. -/
def roundEnd (I : Nat → Fr → AH → Prop) (k : Nat) (Q : AJ → Fr → AH → Prop) (j : AJ) (fr : Fr) (h : AH) : Prop := match j with
  | .norm => ∃ k', k' < k ∧ I k' fr h
  | j => Q j fr h

theorem wE_loop {a : AC} (I : Nat → Fr → AH → Prop) (step : ∀ k fr h, I k fr h → wE env a fr h (roundEnd I k Q)) : ∀ k fr h, I k fr h → wE env (.loop a) fr h Q := by
  intro k
  induction k using Nat.strongRecOn with
  | ind k ih =>
    intro fr h hI
    refine wE_loop1 (wE_mono (step k fr h hI) fun j fr h q => ?_)
    cases j with
    | norm => obtain ⟨k', hlt, hI'⟩ := q; exact ih k' hlt fr h hI'
    | exit id => exact q
    | ret => exact q

/-! ### Calls -/

/-- What is done at the end of an activation. -/
def finQ (res : List ARes) (k : AV → AH → Prop) (j : AJ) (fr : Fr) (h : AH) : Prop := (∀ i, j ≠ .exit i) ∧ ∃ v h', fin res fr h = .ok v h' ∧ k v h'

theorem wF_call {f : Nat} {af : AF} {args : List AV} {k : AV → AH → Prop} (hx : env.ext f args h = none) (hf : env.fn f = some af) (hl : args.length ≤ af.n) (w : ∀ t, (∀ j, ev t (.t j) = if j < args.length then args.getD j .un else .un) → wE env af.body ⟨t, af.n, [], none⟩ h (finQ af.res k)) : wF env f args h k := by
  have hb : Nat.ble args.length af.n = true := by simpa using hl
  have ht : ∀ {α : Type} (l : List AV) (i : Nat) (t : Tr AV), ∃ t', (∀ c : Tr AV → Res α, tmpsOf l i t c = c t') ∧ ∀ j, ev t' (.t j) = if i ≤ j ∧ j < i + l.length then l.getD (j - i) .un else ev t (.t j) := by
    intro α l
    induction l with
    | nil => intro i t; exact ⟨t, fun c => rfl, fun j => by rw [if_neg (by simp only [List.length_nil]; omega)]⟩
    | cons v l ih =>
      intro i t
      obtain ⟨t', h1, h2⟩ := ih (i + 1) (t.set i v)
      refine ⟨t', fun c => by simp only [tmpsOf, Tr.setK_eq]; exact h1 c, fun j => ?_⟩
      rw [h2 j, ev_set]
      simp only [List.length_cons]
      by_cases e1 : j = i
      · subst e1; rw [if_neg (by omega), if_pos rfl, if_pos (by omega)]; simp
      · by_cases e2 : i + 1 ≤ j ∧ j < i + 1 + l.length
        · rw [if_pos e2, if_pos (by omega)]
          obtain ⟨m, hm⟩ : ∃ m, j - i = m + 1 := ⟨j - i - 1, by omega⟩
          rw [hm, show j - (i + 1) = m by omega]; simp
        · rw [if_neg e2, if_neg e1, if_neg (by omega)]
  obtain ⟨t', h1, h2⟩ := ht (α := AV) args 0 .e
  obtain ⟨n, j, fr', h', e, hj, v, h2', e2, q⟩ := w t' fun j => by
    rw [h2 j]
    have : ev (.e : Tr AV) (.t j) = .un := by simp only [ev]; cases j <;> rfl
    simp [this]
  refine ⟨n, v, h2', ?_, q⟩
  unfold callF
  simp only [hx, hf, hb, h1]
  rw [bind_ok e]
  cases j with
  | exit i => exact absurd rfl (hj i)
  | norm => exact e2
  | ret => exact e2

end
end Go.Proofs.YtmlfcopllfdjfaaGreat.Am
