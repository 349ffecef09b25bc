/- An abstract machine for the program's code, and that it is sound: part Am17. -/
import Derived.Test.YtmlfcopllfdjfaaGreatAm16
import Derived.AtR
namespace Go.Proofs.YtmlfcopllfdjfaaGreat.Am
variable {P : Program} {Θ : Th} {G : Gm}

/-! ### What a run may use holds -/

structure FactOK (P : Program) (Θ : Th) (fact : Nat → List AV → Option AV) : Prop where
  val : ∀ i x, fact 0 [.q i] = some (.b x) → Θ i = .bool x
  op : ∀ {G : Gm} {h : AH} {w : World} {ρ : Rf → AV} {ρc : Operand → Value} {o : Oper} {c : Nat} {l : List Rf} {v : AV}, RRef Θ G ρ ρc → RH P Θ G h w → fcode (cOp P o.op) = some (c, l) → fact c (refs ρ l) = some v →
    OpOK P Θ G h w (.v v) h ((execOp ρc o).run P w)

def ExtOK (P : Program) (Θ : Th) (ext : Nat → List AV → AH → Option (AV × AH)) : Prop :=
  ∀ f args h v h', ext f args h = some (v, h') → (∃ af, cFun P f = some af) ∧ ∀ (G : Gm) (w : World) (cargs : Array Value), RH P Θ G h w → RL Θ G args cargs.toList →
    Calls P f cargs w fun e w' => ∃ G' v', e = .returned v' ∧ RV Θ G' v v' ∧ Next P Θ G h w G' h' w'

structure EnvOK (P : Program) (Θ : Th) (env : Env) : Prop where
  fn : ∀ f af, env.fn f = some af → cFun P f = some af
  ext : ExtOK P Θ env.ext
  fact : FactOK P Θ env.fact

theorem EnvOK.of {P : Program} {Θ : Th} {fn : Nat → Option AF} (h : ∀ f af, fn f = some af → cFun P f = some af) : EnvOK P Θ (Env.of fn) :=
  ⟨h, (fun _ _ _ _ _ e => by cases e), ⟨(fun _ _ e => by cases e), (fun _ _ _ e => by cases e)⟩⟩

theorem xopE_sound {fact : Nat → List AV → Option AV} (hΘ : Thin Θ) (hF : FactOK P Θ fact) {h h' : AH} {w : World} {nx : Nx} {ρ : Rf → AV} {ρc : Operand → Value} {o : Oper} (hx : xopE fact ρ (cOp P o.op) h = .ok nx h')
    (hρ : RRef Θ G ρ ρc) (hρ0 : ∀ v, ρ (.c v) = v) (hρf : ∀ f, ρc (.func f) = .func (.func f) #[] #[]) (r : RH P Θ G h w) : OpOK P Θ G h w nx h' ((execOp ρc o).run P w) := by
  unfold xopE at hx
  split at hx
  · exact xop_sound hΘ hx hρ hρ0 hρf r
  · rename_i c l hc
    split at hx
    · exact xop_sound hΘ hx hρ hρ0 hρf r
    · rename_i v hv
      obtain ⟨rfl, rfl⟩ := ok_inj hx
      exact hF.op hρ r hc hv

theorem bval_sound {fact : Nat → List AV → Option AV} (hF : FactOK P Θ fact) {v : AV} {cv : Value} {x : Bool} (hv : RV Θ G v cv) (h : bval fact v = some x) : cv = .bool x := by
  unfold bval at h
  split at h
  · cases h; cases hv; rfl
  · rename_i i
    split at h
    · rename_i y e
      cases h
      cases hv
      exact hF.val i x e
    · cases h
  · cases h

/-! ### Frames -/

def mark (L : Loc) : Deferred := { target := .collected L.blk, args := #[] }

structure RF (Θ : Th) (G : Gm) (fr : Fr) (b : Frame) (a : Act) : Prop where
  t : RT Θ G fr.n fr.t a.tmps
  d : ∃ Ls : List Loc, fr.d.map G = Ls.map some ∧ a.defers = Ls.map mark
  r : (fr.r = none ∧ b.roundOf = none) ∨ ∃ l L, fr.r = some l ∧ G l = some L ∧ b.roundOf = some L.blk
  k : b.kind = .normal

theorem map_ext {G G' : Gm} (e : Ext G G') : ∀ {d : List Nat} {Ls : List Loc}, d.map G = Ls.map some → d.map G' = Ls.map some
  | [], [], _ => rfl
  | [], _ :: _, h => by simp at h
  | _ :: _, [], h => by simp at h
  | i :: d, L :: Ls, h => by
    simp only [List.map_cons, List.cons.injEq] at h ⊢
    exact ⟨e _ _ h.1, map_ext e h.2⟩

theorem RF.ext {G G' : Gm} {fr : Fr} {b : Frame} {a : Act} (h : RF Θ G fr b a) (e : Ext G G') : RF Θ G' fr b a := by
  obtain ⟨Ls, h1, h2⟩ := h.d
  refine ⟨h.t.ext e, ⟨Ls, map_ext e h1, h2⟩, ?_, h.k⟩
  rcases h.r with h | ⟨l, L, h1, h2, h3⟩
  · exact .inl h
  · exact .inr ⟨l, L, h1, e _ _ h2, h3⟩

theorem RT.rref {n : Nat} {t : Tr AV} {a : Act} (h : RT Θ G n t a.tmps) : RRef Θ G (ev t) a.eval := by
  intro x y hc
  cases x with
  | tmp i => cases hc; exact h.2 i
  | const v =>
    simp only [cRef] at hc
    cases hv : cVal 3 v with
    | none => simp [hv] at hc
    | some av => simp [hv] at hc; subst hc; exact cVal_sound _ _ _ hv
  | func f => cases hc; exact .f (.func f) rfl rfl (fun i x y hx => by simp at hx) fun i x y hx => by simp at hx
  | global g => cases hc

theorem ev_set (t : Tr AV) (d : Nat) (v : AV) (i : Nat) : ev (t.set d v) (.t i) = if i = d then v else ev t (.t i) := by
  simp only [ev, Tr.get_set]
  by_cases h : i = d
  · simp [h]
  · simp [h]

theorem getD_set (c : Array Value) (d i : Nat) (v : Value) (hd : d < c.size) : (c.setIfInBounds d v).getD i undef = if i = d then v else c.getD i undef := by
  simp only [Array.getD_eq_getD_getElem?, Array.getElem?_setIfInBounds]
  by_cases h : i = d
  · subst h; simp [hd]
  · rw [if_neg h, if_neg (fun e => h e.symm)]

theorem RT.set {n d : Nat} {t : Tr AV} {c : Array Value} {v : AV} {cv : Value} (h : RT Θ G n t c) (hd : d < n) (hv : RV Θ G v cv) : RT Θ G n (t.set d v) (c.setIfInBounds d cv) := by
  refine ⟨by simpa using h.1, fun i => ?_⟩
  rw [ev_set, getD_set _ _ _ _ (by rw [h.1]; exact hd)]
  split
  · exact hv
  · exact h.2 i

theorem putK_inv {α : Type} {t : Tr AV} {n : Nat} {d : Option Nat} {v : AV} {c : Tr AV → Res α} {x : α} {h : AH} (e : putK t n d v c = .ok x h) :
    ∃ t', c t' = .ok x h ∧ ∀ {G : Gm} {a : Act} {cv : Value}, RT Θ G n t a.tmps → RV Θ G v cv → RT Θ G n t' (a.put d cv).tmps := by
  cases d with
  | none => exact ⟨t, e, fun h _ => h⟩
  | some d =>
    simp only [putK] at e
    split at e
    · rename_i hlt
      have hlt : d < n := by simpa using hlt
      rw [Tr.setK_eq] at e
      exact ⟨_, e, fun h hv => h.set hlt hv⟩
    · cases e

theorem put_defers (a : Act) (d : Option Nat) (v : Value) : (a.put d v).defers = a.defers := by cases d <;> rfl

/-! ### Guards -/

theorem cOper_cases (ops : Array Oper) (o : Oper) :
    (o.guard = none ∧ cOper P ops o = ⟨o.dst, cOp P o.op, none⟩) ∨
    (∃ j w t, o.guard = some (j, w) ∧ (ops[j]?).bind (·.dst) = some t ∧ cOper P ops o = ⟨o.dst, cOp P o.op, some (t, w)⟩) ∨
    cOper P ops o = ⟨o.dst, .bad 1, none⟩ := by
  unfold cOper
  cases hg : o.guard with
  | none => exact .inl ⟨rfl, rfl⟩
  | some jw =>
    obtain ⟨j, w⟩ := jw
    cases ht : (ops[j]?).bind (·.dst) with
    | none => exact .inr (.inr (by simp [ht]))
    | some t => exact .inr (.inl ⟨j, w, t, rfl, ht, by simp [ht]⟩)

theorem want_guard {fact : Nat → List AV → Option AV} (hF : FactOK P Θ fact) {n : Nat} {t : Tr AV} {c : Array Value} (h : RT Θ G n t c) {g : Nat} {w x : Bool} (hw : want fact t (some (g, w)) = some x) :
    ((match c[g]? with
      | some (.bool b) => some b
      | _ => none : Option Bool) == some w) = x := by
  have hv := h.2 g
  rw [Array.getD_eq_getD_getElem?] at hv
  simp only [want] at hw
  split at hw
  · rename_i y e
    have hb := bval_sound hF hv e
    have hc : c[g]? = some (.bool y) := by
      cases hc : c[g]? with
      | none => rw [hc] at hb; cases hb
      | some v => rw [hc] at hb; simp only [Option.getD_some] at hb; rw [hb]
    rw [hc]
    cases y <;> cases w <;> simp at hw <;> subst hw <;> rfl
  · rename_i e0
    split at hw
    · cases hw
    · rename_i e2
      cases hw
      have : ∀ b, c[g]? ≠ some (.bool b) := by
        intro b hb
        rw [hb] at hv
        generalize ev t (.t g) = q at hv e0 e2
        simp only [Option.getD_some] at hv
        cases q with
        | b y => cases e0
        | q i => exact e2 _ rfl
        | _ => cases hv
      split
      · rename_i b hb; exact absurd hb (this b)
      · rfl

theorem want_sound {fact : Nat → List AV → Option AV} (hF : FactOK P Θ fact) {n : Nat} {t : Tr AV} {a : Act} (h : RT Θ G n t a.tmps) (ops : Array Oper) (o : Oper) {x : Bool} (hw : want fact t (cOper P ops o).g = some x) (hb : x = true → (cOper P ops o).o ≠ .bad 1) :
    Region.wanted o (yielded ops a.tmps) = x ∧ (cOper P ops o).o = cOp P o.op ∧ (cOper P ops o).d = o.dst := by
  rcases cOper_cases (P := P) ops o with ⟨hg, e⟩ | ⟨j, w, tt, hg, ht, e⟩ | e
  · rw [e] at hw ⊢
    cases hw
    exact ⟨by simp [Region.wanted, hg], rfl, rfl⟩
  · rw [e] at hw ⊢
    refine ⟨?_, rfl, rfl⟩
    simp only [Region.wanted, hg, yielded, ht, Option.bind_some]
    exact want_guard hF h hw
  · rw [e] at hb hw; cases hw; exact absurd rfl (hb rfl)

/-! ### What an operation leads to -/

def Applied (P : Program) (fr : Frame) (cs : List Frame) (s : Sem Go.Next) (w : World) (m' : Machine) : Prop :=
  ∃ fr1 cs1 w1, (stepG.apply P true fr cs none s w).bare = .go { frame := fr1, callers := cs1, status := .running, dying := none } w1 ∧ Steps P (lone fr1 cs1 w1) m'

def Frame.calm (fr : Frame) : Prop := match fr.todo with
  | .call .. :: _ => False
  | .extern .. :: _ => False
  | _ => True

theorem applied_value {fr : Frame} {cs : List Frame} {s : Sem Go.Next} {w w' : World} {v : Value} (h : s.run P w = .ok (.value v) w') : Applied P fr cs s w (lone (fr.finish v) cs w') :=
  ⟨_, _, _, by simp [stepG.apply, h], .refl _ _⟩

theorem applied_skip {fr : Frame} {cs : List Frame} {s : Sem Go.Next} {w w' : World} (h : s.run P w = .ok .skip w') : Applied P fr cs s w (lone (fr.finish undef) cs w') :=
  ⟨_, _, _, by simp [stepG.apply, h], .refl _ _⟩

theorem applied_enter {fr : Frame} {cs : List Frame} {s : Sem Go.Next} {w w' : World} {f : FuncId} {args : Array Value} {m : Machine} (hc : Frame.calm fr) (h : s.run P w = .ok (.enter f args) w')
    (hs : Steps P (lone (Frame.enter P f args .normal) (fr :: cs) w') m) : Applied P fr cs s w m := by
  refine ⟨_, _, _, ?_, hs⟩
  simp only [stepG.apply, if_true, Sem.runT_eq, h, GStep.bare_after]
  unfold Frame.calm at hc
  split <;> simp_all

theorem applied_round {fr : Frame} {cs : List Frame} {s : Sem Go.Next} {w w' : World} {l : Nat} {f : FuncId} {tmps : Array Value} {as bd : Code} {m : Machine} (h : s.run P w = .ok (.round l f tmps as bd) w')
    (hs : Steps P (lone (Frame.round l f tmps as bd .normal) (fr :: cs) w') m) : Applied P fr cs s w m := by
  refine ⟨_, _, _, ?_, hs⟩
  simp [stepG.apply, h]

end Go.Proofs.YtmlfcopllfdjfaaGreat.Am
