/- An abstract machine for the program's code, and that it is sound: part Am34. -/
import Derived.Test.YtmlfcopllfdjfaaGreatAm33
namespace Go.Proofs.YtmlfcopllfdjfaaGreat.Am

/-! ### Words for walks -/

def nofact : Nat → List AV → Option AV := fun _ _ => none

theorem xopE_nofact (ρ : Rf → AV) (o : AOp) (h : AH) : xopE nofact ρ o h = xop ρ o h := by
  unfold xopE nofact
  cases fcode o with
  | none => rfl
  | some cl => rfl

theorem ev_c (t : Tr AV) (v : AV) : ev t (.c v) = v := rfl

/-- Is it wanted, by the guard's value? -/
def wantV (v : AV) (w : Bool) : Option Bool := match v with
  | .b x => some (x == w)
  | .q _ => none
  | _ => some false

theorem wantV_b (x w : Bool) : wantV (.b x) w = some (x == w) := rfl
theorem wantV_un (w : Bool) : wantV .un w = some false := rfl

theorem want_none (fact : Nat → List AV → Option AV) (t : Tr AV) : want fact t none = some true := rfl
theorem want_some (t : Tr AV) (g : Nat) (w : Bool) : want nofact t (some (g, w)) = wantV (ev t (.t g)) w := by
  simp only [want]
  cases ev t (.t g) with
  | b x => cases x <;> cases w <;> rfl
  | _ => rfl

theorem bval_b (fact : Nat → List AV → Option AV) (x : Bool) : bval fact (.b x) = some x := rfl

/-- Both ways. -/
def wIf (b : Bool) (x y : Prop) : Prop := (b = true → x) ∧ (b = false → y)
def wGuard (g : Option Bool) (x y : Prop) : Prop := match g with
  | some b => wIf b x y
  | none => False

theorem wIf_true (x y : Prop) : wIf true x y = x := by simp [wIf]
theorem wIf_false (x y : Prop) : wIf false x y = y := by simp [wIf]
theorem wIf_of {b : Bool} {x y : Prop} (h1 : b = true → x) (h2 : b = false → y) : wIf b x y := ⟨h1, h2⟩
theorem wGuard_some (b : Bool) (x y : Prop) : wGuard (some b) x y = wIf b x y := rfl

section
variable {env : Env}

theorem wX_v (a : AV) (h : AH) (k : AV → AH → Prop) : wX env (.ok (.v a) h) k = k a h := rfl
theorem wX_call (f : Nat) (args : List AV) (h : AH) (k : AV → AH → Prop) : wX env (.ok (.call f args) h) k = wF env f args h k := rfl
theorem wX_yld (l : Nat) (args : List AV) (h : AH) (k : AV → AH → Prop) : wX env (.ok (.yld l args) h) k = wY env l args h k := rfl

theorem wPut_none (N : Nat) (v : AV) (t : Tr AV) (k : Tr AV → Prop) : wPut N none v t k = k t := rfl
theorem wPut_some (N d : Nat) (v : AV) (t : Tr AV) (k : Tr AV → Prop) : wPut N (some d) v t k = (d < N ∧ k (t.set d v)) := rfl

/-- What follows an operation. -/
def opK (env : Env) (N : Nat) (d : Option Nat) (os : List AOper) (t : Tr AV) (Q : Tr AV → AH → Prop) (v : AV) (h : AH) : Prop := wPut N d v t fun t => wO env N os t h Q
/-- An operation under a guard. -/
def gK (env : Env) (N : Nat) (g : Option Bool) (d : Option Nat) (o : AOp) (os : List AOper) (t : Tr AV) (h : AH) (Q : Tr AV → AH → Prop) : Prop :=
  wGuard g (wX env (xopE env.fact (ev t) o h) (opK env N d os t Q)) (wPut N d .un t fun t => wO env N os t h Q)

theorem opK_some (N d : Nat) (os : List AOper) (t : Tr AV) (Q : Tr AV → AH → Prop) (v : AV) (h : AH) : opK env N (some d) os t Q v h = (d < N ∧ wO env N os (t.set d v) h Q) := rfl
theorem opK_none (N : Nat) (os : List AOper) (t : Tr AV) (Q : Tr AV → AH → Prop) (v : AV) (h : AH) : opK env N none os t Q v h = wO env N os t h Q := rfl
theorem gK_true (N : Nat) (d : Option Nat) (o : AOp) (os : List AOper) (t : Tr AV) (h : AH) (Q : Tr AV → AH → Prop) : gK env N (some true) d o os t h Q = wX env (xopE env.fact (ev t) o h) (opK env N d os t Q) := by simp [gK, wGuard, wIf]
theorem gK_false (N d : Nat) (o : AOp) (os : List AOper) (t : Tr AV) (h : AH) (Q : Tr AV → AH → Prop) : gK env N (some false) (some d) o os t h Q = (d < N ∧ wO env N os (t.set d .un) h Q) := by simp [gK, wGuard, wIf, wPut]
theorem gK_falseN (N : Nat) (o : AOp) (os : List AOper) (t : Tr AV) (h : AH) (Q : Tr AV → AH → Prop) : gK env N (some false) none o os t h Q = wO env N os t h Q := by simp [gK, wGuard, wIf, wPut]

theorem wO_nil (N : Nat) (t : Tr AV) (h : AH) (Q : Tr AV → AH → Prop) : wO env N [] t h Q = Q t h := rfl
theorem wO_op (N : Nat) (d : Option Nat) (o : AOp) (os : List AOper) (t : Tr AV) (h : AH) (Q : Tr AV → AH → Prop) : wO env N (⟨d, o, none⟩ :: os) t h Q = wX env (xopE env.fact (ev t) o h) (opK env N d os t Q) := rfl
theorem wO_g (N : Nat) (d : Option Nat) (o : AOp) (g : Nat) (w : Bool) (os : List AOper) (t : Tr AV) (h : AH) (Q : Tr AV → AH → Prop) (hF : env.fact = nofact) : wO env N (⟨d, o, some (g, w)⟩ :: os) t h Q = gK env N (wantV (ev t (.t g)) w) d o os t h Q := by
  simp only [wO, gK, hF, want_some]
  cases wantV (ev t (.t g)) w with
  | none => rfl
  | some b => cases b <;> simp [wGuard, wIf] <;> rfl

/-- The value of an operation that needs no call. -/
def wVal (r : Res Nx) (k : AV → AH → Prop) : Prop := match r with
  | .ok (.v v) h => k v h
  | _ => False
theorem wVal_v (a : AV) (h : AH) (k : AV → AH → Prop) : wVal (.ok (.v a) h) k = k a h := rfl

/-- The same along a plan. -/
def opP (env : Env) (N id : Nat) (d : Option Nat) (os : List PI) (t : Tr AV) (Q : Tr AV → AH → Prop) (v : AV) (h : AH) : Prop := wPut N d v t fun t => wP env N id os t h Q
def flP (env : Env) (N id : Nat) (d : Option Nat) (os : List PI) (t : Tr AV) (nx : Nat) (Q : Tr AV → AH → Prop) (v : AV) (h : AH) : Prop := wPut N d v t fun t => wP env N id os t ⟨nx, h.o⟩ Q
def chkP (env : Env) (N id : Nat) (d : Nat) (os : List PI) (t : Tr AV) (h : AH) (Q : Tr AV → AH → Prop) (v : AV) (_ : AH) : Prop := veq v (ev t (.t d)) = true ∧ wP env N id os t h Q
def gP (env : Env) (N id : Nat) (g : Option Bool) (x : Prop) (d : Option Nat) (os : List PI) (t : Tr AV) (h : AH) (Q : Tr AV → AH → Prop) : Prop := wGuard g x (wPut N d .un t fun t => wP env N id os t h Q)

theorem opP_some (N id d : Nat) (os : List PI) (t : Tr AV) (Q : Tr AV → AH → Prop) (v : AV) (h : AH) : opP env N id (some d) os t Q v h = (d < N ∧ wP env N id os (t.set d v) h Q) := rfl
theorem opP_none (N id : Nat) (os : List PI) (t : Tr AV) (Q : Tr AV → AH → Prop) (v : AV) (h : AH) : opP env N id none os t Q v h = wP env N id os t h Q := rfl
theorem flP_some (N id d : Nat) (os : List PI) (t : Tr AV) (nx : Nat) (Q : Tr AV → AH → Prop) (v : AV) (h : AH) : flP env N id (some d) os t nx Q v h = (d < N ∧ wP env N id os (t.set d v) ⟨nx, h.o⟩ Q) := rfl
theorem chkP_eq (N id d : Nat) (os : List PI) (t : Tr AV) (h : AH) (Q : Tr AV → AH → Prop) (v : AV) (h' : AH) : chkP env N id d os t h Q v h' = (veq v (ev t (.t d)) = true ∧ wP env N id os t h Q) := rfl

theorem wP_nil (N id : Nat) (t : Tr AV) (h : AH) (Q : Tr AV → AH → Prop) : wP env N id [] t h Q = Q t h := rfl
theorem wP_op (N id : Nat) (d : Option Nat) (o : AOp) (os : List PI) (t : Tr AV) (h : AH) (Q : Tr AV → AH → Prop) : wP env N id (.op ⟨d, o, none⟩ :: os) t h Q = wX env (xopE env.fact (ev t) o h) (opP env N id d os t Q) := rfl
theorem wP_fl (N id : Nat) (d : Option Nat) (o : AOp) (os : List PI) (t : Tr AV) (h : AH) (Q : Tr AV → AH → Prop) : wP env N id (.fl ⟨d, o, none⟩ :: os) t h Q = wVal (xopE env.fact (ev t) o ⟨id, h.o⟩) (flP env N id d os t h.nx Q) := by
  simp only [wP, want_none, wVal]
  generalize xopE env.fact (ev t) o ⟨id, h.o⟩ = r
  cases r with
  | ok x h => cases x <;> rfl
  | _ => rfl
theorem wP_chk (N id d : Nat) (o : AOp) (os : List PI) (t : Tr AV) (h : AH) (Q : Tr AV → AH → Prop) : wP env N id (.chk ⟨some d, o, none⟩ :: os) t h Q = wVal (xopE env.fact (ev t) o h) (chkP env N id d os t h Q) := by
  simp only [wP, want_none, wVal]
  generalize xopE env.fact (ev t) o h = r
  cases r with
  | ok x h => cases x <;> rfl
  | _ => rfl

theorem toNx_some (h : AH) (a : AV) : toNx h (some a) = .ok (.v a) h := rfl

/-! ### Code, part by part -/

def wC (env : Env) : AC → Fr → AH → (AJ → Fr → AH → Prop) → Prop
  | .skip, fr, h, Q => Q .norm fr h
  | .reg ops, fr, h, Q => wO env fr.n ops fr.t h fun t h => Q .norm ⟨t, fr.n, fr.d, fr.r⟩ h
  | .drw ps, fr, h, Q => wP env fr.n h.nx ps fr.t ⟨h.nx + 1, h.o⟩ fun t h => Q .norm ⟨t, fr.n, fr.d, fr.r⟩ h
  | .seq a b, fr, h, Q => wC env a fr h fun j fr h => match j with
    | .norm => wC env b fr h Q
    | .exit i => Q (.exit i) fr h
    | .ret => Q .ret fr h
  | .cond x a b, fr, h, Q => wGuard (bval env.fact (ev fr.t x)) (wC env a fr h Q) (wC env b fr h Q)
  | .blk id a, fr, h, Q => wC env a fr h (blkEnd id Q)
  | .loop a, fr, h, Q => wE env (.loop a) fr h Q
  | .rf x ps asg body, fr, h, Q => wE env (.rf x ps asg body) fr h Q
  | .exit id, fr, h, Q => Q (.exit id) fr h
  | .ret, fr, h, Q => Q .ret fr h
  | .bad _, _, _, _ => False

theorem wC_E : ∀ {c : AC} {fr : Fr} {h : AH} {Q : AJ → Fr → AH → Prop}, wC env c fr h Q → wE env c fr h Q
  | .skip, fr, h, Q, w => wE_skip w
  | .reg ops, fr, h, Q, w => wE_reg w
  | .drw ps, fr, h, Q, w => wE_drw w
  | .seq a b, fr, h, Q, w => wE_seq (wE_mono (wC_E (c := a) w) fun j fr h q => by
    cases j with
    | norm => exact wC_E (c := b) q
    | exit i => exact q
    | ret => exact q)
  | .cond x a b, fr, h, Q, w => by
    simp only [wC] at w
    cases hb : bval env.fact (ev fr.t x) with
    | none => rw [hb] at w; exact w.elim
    | some q =>
      rw [hb] at w
      exact wE_cond hb (fun e => wC_E (c := a) (w.1 e)) fun e => wC_E (c := b) (w.2 e)
  | .blk id a, fr, h, Q, w => wE_blk (wC_E (c := a) w)
  | .loop a, fr, h, Q, w => w
  | .rf x ps asg body, fr, h, Q, w => w
  | .exit id, fr, h, Q, w => wE_exit w
  | .ret, fr, h, Q, w => wE_ret w
  | .bad _, fr, h, Q, w => w.elim

def andC (env : Env) (b : AC) (Q : AJ → Fr → AH → Prop) (j : AJ) (fr : Fr) (h : AH) : Prop := match j with
  | .norm => wC env b fr h Q
  | .exit i => Q (.exit i) fr h
  | .ret => Q .ret fr h

/-- What follows a region. -/
def regQ (fr : Fr) (Q : AJ → Fr → AH → Prop) (t : Tr AV) (h : AH) : Prop := Q .norm ⟨t, fr.n, fr.d, fr.r⟩ h

/-- A choice. -/
def condK (env : Env) (q : Option Bool) (a b : AC) (fr : Fr) (h : AH) (Q : AJ → Fr → AH → Prop) : Prop := wGuard q (wC env a fr h Q) (wC env b fr h Q)

section
variable {fr : Fr} {h : AH} {Q : AJ → Fr → AH → Prop}
theorem wC_skip : wC env .skip fr h Q = Q .norm fr h := rfl
theorem wC_reg (ops : List AOper) : wC env (.reg ops) fr h Q = wO env fr.n ops fr.t h (regQ fr Q) := rfl
theorem wC_drw (ps : List PI) : wC env (.drw ps) fr h Q = wP env fr.n h.nx ps fr.t ⟨h.nx + 1, h.o⟩ (regQ fr Q) := rfl
theorem wC_seq (a b : AC) : wC env (.seq a b) fr h Q = wC env a fr h (andC env b Q) := rfl
theorem wC_cond (x : Rf) (a b : AC) : wC env (.cond x a b) fr h Q = condK env (bval env.fact (ev fr.t x)) a b fr h Q := rfl
theorem condK_true (a b : AC) : condK env (some true) a b fr h Q = wC env a fr h Q := by simp [condK, wGuard, wIf]
theorem condK_false (a b : AC) : condK env (some false) a b fr h Q = wC env b fr h Q := by simp [condK, wGuard, wIf]
theorem condK_of {q : Bool} {a b : AC} (h1 : q = true → wC env a fr h Q) (h2 : q = false → wC env b fr h Q) : condK env (some q) a b fr h Q := ⟨h1, h2⟩
theorem wC_blk (id : Nat) (a : AC) : wC env (.blk id a) fr h Q = wC env a fr h (blkEnd id Q) := rfl
theorem wC_exit (id : Nat) : wC env (.exit id) fr h Q = Q (.exit id) fr h := rfl
theorem wC_ret : wC env .ret fr h Q = Q .ret fr h := rfl
theorem regQ_eq (t : Tr AV) : regQ fr Q t h = Q .norm ⟨t, fr.n, fr.d, fr.r⟩ h := rfl
theorem andC_norm (b : AC) : andC env b Q .norm fr h = wC env b fr h Q := rfl
theorem andC_exit (b : AC) (i : Nat) : andC env b Q (.exit i) fr h = Q (.exit i) fr h := rfl
theorem andC_ret (b : AC) : andC env b Q .ret fr h = Q .ret fr h := rfl
theorem blkEnd_norm (id : Nat) : blkEnd id Q .norm fr h = Q .norm fr h := rfl
theorem blkEnd_same (id : Nat) : blkEnd id Q (.exit id) fr h = Q .norm fr h := by simp [blkEnd]
theorem blkEnd_exit (id i : Nat) : blkEnd id Q (.exit i) fr h = if i = id then Q .norm fr h else Q (.exit i) fr h := rfl
theorem blkEnd_ret (id : Nat) : blkEnd id Q .ret fr h = Q .ret fr h := rfl
theorem roundEnd_exit (I : Nat → Fr → AH → Prop) (k i : Nat) : roundEnd I k Q (.exit i) fr h = Q (.exit i) fr h := rfl
theorem roundEnd_ret (I : Nat → Fr → AH → Prop) (k : Nat) : roundEnd I k Q .ret fr h = Q .ret fr h := rfl
theorem roundEnd_norm (I : Nat → Fr → AH → Prop) (k : Nat) : roundEnd I k Q .norm fr h = ∃ k', k' < k ∧ I k' fr h := rfl

/-- What an activation answers. -/
def resV : List AV → AV
  | [v] => v
  | l => .tp l

theorem fin_eq {res : List ARes} {l : List AV} (h1 : AH) (hu : ∀ c : AH → Res AV, untake fr.d h c = c h1) (hr : ress fr.t h1 res = some l) : fin res fr h = .ok (resV l) h1 := by
  unfold fin
  rw [hu]
  simp only [hr]
  match l with
  | [] => rfl
  | [v] => rfl
  | _ :: _ :: _ => rfl

/-- At the end of an activation without records of loops. -/
theorem finQ_plain {res : List ARes} {k : AV → AH → Prop} {j : AJ} (hj : ∀ i, j ≠ .exit i) (hd : fr.d = []) {l : List AV} (hr : ress fr.t h res = some l) (hk : k (resV l) h) : finQ res k j fr h :=
  ⟨hj, resV l, h, fin_eq h (fun c => by rw [hd]; rfl) hr, hk⟩

/-- The same where one record of loops was laid. -/
theorem finQ_one {res : List ARes} {k : AV → AH → Prop} {j : AJ} (hj : ∀ i, j ≠ .exit i) {r : Nat} (hd : fr.d = [r]) (hg : h.o.get r = some (.dfr false)) {l : List AV} (hr : ress fr.t ⟨h.nx, h.o.set r (.dfr true)⟩ res = some l) (hk : k (resV l) ⟨h.nx, h.o.set r (.dfr true)⟩) : finQ res k j fr h :=
  ⟨hj, resV l, _, fin_eq _ (fun c => by rw [hd]; simp only [untake, hg, hset_eq]) hr, hk⟩

end

/-! ### Functions that are ranged over -/

/-- What becomes of the record of a loop at its end. -/
def rfEnd (l : Nat) (fr : Fr) (Q : AJ → Fr → AH → Prop) (h : AH) : Prop :=
  ∃ st pend n t ps asg body df, h.o.get l = some (.loop st pend n t ps asg body df) ∧ st ≠ .busy ∧ Q pend fr ⟨h.nx, h.o.set l (.loop .exhausted pend n t ps asg body df)⟩

theorem loopEnd_ok {l : Nat} {fr : Fr} {h : AH} {Q : AJ → Fr → AH → Prop} (w : rfEnd l fr Q h) : ∃ j h', loopEnd l fr h = .ok (j, fr) h' ∧ Q j fr h' := by
  obtain ⟨st, pend, n, t, ps, asg, body, df, hg, hst, hq⟩ := w
  refine ⟨pend, _, ?_, hq⟩
  unfold loopEnd
  simp only [hg]
  cases st <;> first | (exact absurd rfl hst) | simp only [hset_eq]

theorem wE_rf0 {fr : Fr} {h : AH} {Q : AJ → Fr → AH → Prop} {x : Rf} {ps : List Nat} {asg body : AC} (hr : fr.r = none) {g : Nat} {first cap : List AV} (hx : ev fr.t x = .f (.func g) first cap)
    (w : wF env g (first ++ [.f (.yield (h.nx + 1)) [] []] ++ cap) ⟨h.nx + 2, (h.o.set h.nx (.dfr false)).set (h.nx + 1) (.loop .ready .norm fr.n fr.t ps asg body h.nx)⟩ fun _ h' => rfEnd (h.nx + 1) ⟨fr.t, fr.n, h.nx :: fr.d, none⟩ Q h') :
    wE env (.rf x ps asg body) fr h Q := by
  obtain ⟨n, v, h', e, w⟩ := w
  obtain ⟨j, h2, e2, q⟩ := loopEnd_ok w
  refine wE_of_step (n := n) ?_ q
  simp only [stepC, enterK, hr, hnew_eq, hx, rfF, listK_eq]
  rw [bind_ok e]
  exact e2

theorem wE_rf1 {fr : Fr} {h : AH} {Q : AJ → Fr → AH → Prop} {x : Rf} {ps : List Nat} {asg body : AC} {l0 : Nat} (hr : fr.r = some l0) {st0 : LoopState} {pend0 : AJ} {n0 : Nat} {t0 : Tr AV} {ps0 : List Nat} {asg0 body0 : AC} {df : Nat}
    (hl : h.o.get l0 = some (.loop st0 pend0 n0 t0 ps0 asg0 body0 df)) {g : Nat} {first cap : List AV} (hx : ev fr.t x = .f (.func g) first cap)
    (w : wF env g (first ++ [.f (.yield h.nx) [] []] ++ cap) ⟨h.nx + 1, h.o.set h.nx (.loop .ready .norm fr.n fr.t ps asg body df)⟩ fun _ h' => rfEnd h.nx fr Q h') :
    wE env (.rf x ps asg body) fr h Q := by
  obtain ⟨n, v, h', e, w⟩ := w
  obtain ⟨j, h2, e2, q⟩ := loopEnd_ok w
  refine wE_of_step (n := n) ?_ q
  simp only [stepC, enterK, hr, hl, hnew_eq, hx, rfF, listK_eq]
  rw [bind_ok e]
  exact e2

/-- The parameters of a round. -/
def psets : List Nat → List AV → Tr AV → Tr AV
  | p :: ps, v :: vs, t => psets ps vs (t.set p v)
  | _, _, t => t

theorem pset_eq {α : Type} {n : Nat} (c : Tr AV → Res α) : ∀ {ps : List Nat} {vs : List AV} {t : Tr AV}, ps.length = vs.length → (∀ p ∈ ps, p < n) → pset n ps vs t c = c (psets ps vs t)
  | [], [], t, _, _ => rfl
  | p :: ps, v :: vs, t, hl, hp => by
    have : Nat.blt p n = true := by simpa using hp p (.head _)
    simp only [pset, this, Tr.setK_eq, psets]
    exact pset_eq c (by simpa using hl) fun q hq => hp q (.tail _ hq)
  | [], _ :: _, t, hl, _ => by simp at hl
  | _ :: _, [], t, hl, _ => by simp at hl

/-- Behind a round's body. -/
def roundQ (l : Nat) (k : AV → AH → Prop) (j : AJ) (_ : Fr) (h : AH) : Prop :=
  ∃ st pend n t ps asg body df, h.o.get l = some (.loop st pend n t ps asg body df) ∧ match j with
    | .norm => k (.b true) ⟨h.nx, h.o.set l (.loop .ready .norm n t ps asg body df)⟩
    | j => k (.b false) ⟨h.nx, h.o.set l (.loop .done j n t ps asg body df)⟩

/-- Behind a round's assignment. -/
def asgQ (env : Env) (l : Nat) (body : AC) (k : AV → AH → Prop) (j : AJ) (fr : Fr) (h : AH) : Prop :=
  j = .norm ∧ ∃ pend n t ps asg body' df, h.o.get l = some (.loop .ready pend n t ps asg body' df) ∧ wE env body fr ⟨h.nx, h.o.set l (.loop .busy pend n t ps asg body' df)⟩ (roundQ l k)

theorem wY_round {l : Nat} {args : List AV} {h : AH} {k : AV → AH → Prop} {st : LoopState} {pend : AJ} {n : Nat} {t : Tr AV} {ps : List Nat} {asg body : AC} {df : Nat}
    (hl : h.o.get l = some (.loop st pend n t ps asg body df)) (hlen : ps.length = args.length) (hps : ∀ p ∈ ps, p < n) (w : wE env asg ⟨psets ps args t, n, [], some l⟩ h (asgQ env l body k)) : wY env l args h k := by
  obtain ⟨m, j, fr1, h1, e1, rfl, pend1, n1, t1, ps1, asg1, body1, df1, hg1, m2, j2, fr2, h2, e2, st2, pend2, n2, t2, ps2, asg2, body2, df2, hg2, q⟩ := w
  have e1' := evalC_mono (Nat.le_max_left m m2) _ _ _ _ _ e1
  have e2' := evalC_mono (Nat.le_max_right m m2) _ _ _ _ _ e2
  cases j2 with
  | norm =>
    refine ⟨max m m2, _, _, ?_, q⟩
    unfold roundF
    simp only [hl, pset_eq _ hlen hps]
    rw [bind_ok e1']
    simp only [hg1, hset_eq]
    rw [bind_ok e2']
    simp only [hg2]
  | exit i =>
    refine ⟨max m m2, _, _, ?_, q⟩
    unfold roundF
    simp only [hl, pset_eq _ hlen hps]
    rw [bind_ok e1']
    simp only [hg1, hset_eq]
    rw [bind_ok e2']
    simp only [hg2]
  | ret =>
    refine ⟨max m m2, _, _, ?_, q⟩
    unfold roundF
    simp only [hl, pset_eq _ hlen hps]
    rw [bind_ok e1']
    simp only [hg1, hset_eq]
    rw [bind_ok e2']
    simp only [hg2]

theorem wF_mono {f : Nat} {args : List AV} {h : AH} {k k' : AV → AH → Prop} (w : wF env f args h k) (m : ∀ v h', k v h' → k' v h') : wF env f args h k' := by
  obtain ⟨n, v, h', e, q⟩ := w
  exact ⟨n, v, h', e, m _ _ q⟩

theorem wY_mono {l : Nat} {args : List AV} {h : AH} {k k' : AV → AH → Prop} (w : wY env l args h k) (m : ∀ v h', k v h' → k' v h') : wY env l args h k' := by
  obtain ⟨n, v, h', e, q⟩ := w
  exact ⟨n, v, h', e, m _ _ q⟩

end

/-! ### Values -/

theorem kindEq_self (k : IntKind) : kindEq k k = true := by cases k <;> rfl

/-- Two numbers of one kind. -/
theorem abin_i (o : BinOp) (e : EqT) (k : IntKind) (a b : Int) : abin o e (.i k a) (.i k b) = match o with
    | .shl => ishift .shl k a b
    | .shr => ishift .shr k a b
    | o => iarith o k a b := by
  cases o <;> simp only [abin, kindEq_self]
section
variable (k : IntKind) (a b : Int)
theorem iarith_add : iarith .add k a b = some (.i k (k.wrap (a + b))) := by simp only [iarith, vi_eq, id]
theorem iarith_sub : iarith .sub k a b = some (.i k (k.wrap (a - b))) := by simp only [iarith, vi_eq, id]
theorem iarith_mul : iarith .mul k a b = some (.i k (k.wrap (a * b))) := by simp only [iarith, vi_eq, id]
theorem iarith_quo (hb : b ≠ 0) : iarith .quo k a b = some (.i k (k.wrap (a.tdiv b))) := by simp only [iarith, hb, decide_false, vi_eq, id]
theorem iarith_rem (hb : b ≠ 0) : iarith .rem k a b = some (.i k (a.tmod b)) := by simp only [iarith, hb, decide_false, vi_eq, id]
theorem iarith_eql : iarith .eql k a b = some (.b (decide (a = b))) := by simp only [iarith, boolK_eq]
theorem iarith_neq : iarith .neq k a b = some (.b (!decide (a = b))) := by simp only [iarith, boolK_eq]
theorem iarith_lss : iarith .lss k a b = some (.b (decide (a < b))) := by simp only [iarith, boolK_eq]
theorem iarith_leq : iarith .leq k a b = some (.b (decide (a ≤ b))) := by simp only [iarith, boolK_eq]
theorem iarith_gtr : iarith .gtr k a b = some (.b (decide (b < a))) := by simp only [iarith, boolK_eq]
theorem iarith_geq : iarith .geq k a b = some (.b (decide (b ≤ a))) := by simp only [iarith, boolK_eq]
end
theorem sarith_eql (a b : List Nat) : sarith .eql a b = some (.b (seq a b)) := by simp only [sarith, boolK_eq]
theorem sarith_neq (a b : List Nat) : sarith .neq a b = some (.b (!seq a b)) := by simp only [sarith, boolK_eq]
theorem sarith_lss (a b : List Nat) : sarith .lss a b = some (.b (slt a b)) := by simp only [sarith, boolK_eq]
theorem sarith_leq (a b : List Nat) : sarith .leq a b = some (.b (slt a b || seq a b)) := by simp only [sarith, boolK_eq]
theorem sarith_gtr (a b : List Nat) : sarith .gtr a b = some (.b (!(slt a b || seq a b))) := by simp only [sarith, boolK_eq]
theorem sarith_geq (a b : List Nat) : sarith .geq a b = some (.b (!slt a b)) := by simp only [sarith, boolK_eq]
theorem sarith_add (a b : List Nat) (h : (a ++ b).length ≤ 9223372036854775807) : sarith .add a b = some (.s (a ++ b)) := by
  have : Nat.ble (a ++ b).length 9223372036854775807 = true := by simpa using h
  simp only [sarith, natsK_eq, this]
theorem abin_s (o : BinOp) (e : EqT) (a b : List Nat) : abin o e (.s a) (.s b) = sarith o a b := rfl
theorem abin_bb (a b : Bool) : abin .eql .bool (.b a) (.b b) = some (.b (a == b)) := by simp only [abin, aeq, boolK_eq]
theorem aun_not (x : Bool) : aun .not (.b x) = some (.b (!x)) := by simp only [aun, boolK_eq]

/-! ### What was there stays -/

/-- What was there is as it was; what is new is behind it. -/
structure Grow (h h' : AH) : Prop where
  nx : h.nx ≤ h'.nx
  old : ∀ i, i < h.nx → h'.o.get i = h.o.get i

theorem Grow.refl (h : AH) : Grow h h := ⟨Nat.le_refl _, fun _ _ => rfl⟩
theorem Grow.trans {a b c : AH} (x : Grow a b) (y : Grow b c) : Grow a c := ⟨Nat.le_trans x.nx y.nx, fun i hi => (y.old i (Nat.lt_of_lt_of_le hi x.nx)).trans (x.old i hi)⟩
theorem Grow.new {h h' : AH} (g : Grow h h') (o : AO) : Grow h ⟨h'.nx + 1, h'.o.set h'.nx o⟩ := ⟨Nat.le_succ_of_le g.nx, fun i hi => by rw [Tr.get_set, if_neg (Nat.ne_of_lt (Nat.lt_of_lt_of_le hi g.nx))]; exact g.old i hi⟩
theorem Grow.put {h h' : AH} (g : Grow h h') {id : Nat} (hid : h.nx ≤ id) (o : AO) : Grow h ⟨h'.nx, h'.o.set id o⟩ := ⟨g.nx, fun i hi => by rw [Tr.get_set, if_neg (by omega)]; exact g.old i hi⟩
theorem Grow.get {h h' : AH} (g : Grow h h') {i : Nat} {o : AO} (hi : i < h.nx) (e : h.o.get i = some o) : h'.o.get i = some o := (g.old i hi).trans e

end Go.Proofs.YtmlfcopllfdjfaaGreat.Am
