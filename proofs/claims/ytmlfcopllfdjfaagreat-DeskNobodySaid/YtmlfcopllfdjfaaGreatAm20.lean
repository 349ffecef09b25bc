/- An abstract machine for the program's code, and that it is sound: part Am20. -/
import Derived.Test.YtmlfcopllfdjfaaGreatAm19
namespace Go.Proofs.YtmlfcopllfdjfaaGreat.Am
variable {P : Program} {Θ : Th} {G : Gm}

section
variable {C : AC → Fr → AH → Res (AJ × Fr)} {env : Env}

theorem sim_ops (hΘ : Thin Θ) (hC : SimC P Θ C) (henv : EnvOK P Θ env) {ops : Array Oper} {n : Nat} {t' : Tr AV} {h' : AH} : ∀ {l : List Nat} {t : Tr AV} {h : AH},
    aops env.fact (doNx env C) n (l.map fun i => cOper P ops (ops.getD i default)) t h = .ok t' h' → (∀ i ∈ l, i < ops.size) → ∀ {G : Gm} {w : World} {a : Act}, RH P Θ G h w → RT Θ G n t a.tmps → ∀ (b : Frame) (k : List Item) (cs : List Frame),
    ∃ G' w' a', Next P Θ G h w G' h' w' ∧ RT Θ G' n t' a'.tmps ∧ a'.defers = a.defers ∧ Steps P (lone (b.atR a (.inRegion ops l :: k)) cs w) (lone (b.atR a' (.inRegion ops [] :: k)) cs w')
  | [], t, h, e, _, G, w, a, r, ht, b, k, cs => by
    obtain ⟨rfl, rfl⟩ := ok_inj e
    exact ⟨G, w, a, .refl r, ht, rfl, .refl _ _⟩
  | i :: l, t, h, e, hl, G, w, a, r, ht, b, k, cs => by
    have hi : i < ops.size := hl i (by simp)
    have ho : ops[i]? = some (ops.getD i default) := by simp [hi]
    simp only [List.map_cons] at e
    generalize ops.getD i default = o at ho e
    simp only [aops] at e
    have hd : (cOper P ops o).d = o.dst := by
      rcases cOper_cases (P := P) ops o with ⟨_, e'⟩ | ⟨_, _, _, _, _, e'⟩ | e' <;> rw [e']
    split at e
    · rename_i hw
      obtain ⟨v, h1, e1, e⟩ := bind_inv e
      obtain ⟨t1, e, hput⟩ := putK_inv e
      obtain ⟨G1, w1, v', n1, hv, hs⟩ := sim_op hΘ hC henv ho hw e1 r ht b l k cs
      rw [hd] at hput
      obtain ⟨G2, w2, a2, n2, ht2, hdf, hs2⟩ := sim_ops hΘ hC henv e (fun j hj => hl j (by simp [hj])) n1.rh (hput (ht.ext n1.ext) hv) b k cs
      exact ⟨G2, w2, a2, n1.trans n2, ht2, hdf.trans (put_defers _ _ _), hs.trans hs2⟩
    · rename_i hw
      obtain ⟨t1, e, hput⟩ := putK_inv e
      rw [hd] at hput
      have hs := sim_op_skip (P := P) (G := G) henv.fact ho hw (w := w) ht b l k cs
      obtain ⟨G2, w2, a2, n2, ht2, hdf, hs2⟩ := sim_ops hΘ hC henv e (fun j hj => hl j (by simp [hj])) r (hput ht RV.un) b k cs
      exact ⟨G2, w2, a2, n2, ht2, hdf.trans (put_defers _ _ _), hs.trans hs2⟩
    · cases e

def SimDraw (P : Program) (Θ : Th) (C : AC → Fr → AH → Res (AJ × Fr)) (env : Env) : Prop :=
  ∀ (ops : Array Oper) (l : List AOper) (anc : List Nat) (fl : Nat) (plan : List (Bool × Nat)), l = ops.toList.map (cOper P ops) → planOk ops l anc fl plan = true →
    ∀ (n : Nat) (t t' : Tr AV) (h h' : AH), aplan env.fact (doNx env C) n h.nx (toPI l fl plan) t ⟨h.nx + 1, h.o⟩ = .ok t' h' →
    ∀ (q : Nat) (G : Gm) (w : World) (a : Act), RH P Θ G h w → RT Θ G n t a.tmps → ∀ (b : Frame) (k : List Item) (cs : List Frame),
      ∃ G' w' a', Next P Θ G h w G' h' w' ∧ RT Θ G' n t' a'.tmps ∧ a'.defers = a.defers ∧
        Steps P (lone (b.atR a (.inRegion ops (Region.schedule (P.follows .mixedOrders) ops q) :: k)) cs w) (lone (b.atR a' (.inRegion ops [] :: k)) cs w')

theorem range_getD {α : Type} [Inhabited α] (ops : Array α) : (List.range ops.size).map (fun i => ops.getD i default) = ops.toList := by
  apply List.ext_getElem
  · simp
  · intro i h1 h2
    simp at h1
    simp [h1]

theorem toList_ops (ops : Array Oper) : ops.toList.map (cOper P ops) = (List.range ops.size).map fun i => cOper P ops (ops.getD i default) := by
  conv => lhs; rw [← range_getD ops]
  rw [List.map_map]; rfl

/-- Steps from m lead on from the next one, if they do not end at once. -/
theorem Steps.tail {m x m' : Machine} (h : Steps P m m') (hs : step P m = .next x) (hne : m ≠ m') : Steps P x m' := by
  obtain ⟨n, hn⟩ := h
  cases n with
  | zero => simp [runN] at hn; exact absurd hn hne
  | succ n =>
    simp only [runN, hs] at hn
    exact ⟨n, hn⟩

theorem lone_ne {b : Frame} {a a' : Act} {k k' : List Item} {cs cs' : List Frame} {w w' : World} (h : k ≠ k') : lone (b.atR a k) cs w ≠ lone (b.atR a' k') cs' w' := by
  intro e
  apply h
  have h1 := congrArg Machine.gs e
  simp [lone, Frame.atR] at h1
  exact h1.1.2.1

theorem finish_inRF (b : Frame) (a : Act) (l : Nat) (k : List Item) (v : Value) : (b.atR a (.inRangeFunc l :: k)).finish v = b.atR a (.endRangeFunc l :: k) := by
  simp [Frame.finish, Frame.atR]

theorem step_endRF {b : Frame} {a : Act} {l : Nat} {k : List Item} {cs : List Frame} {w w' : World} {jump : Option Code} (h : (Instr.endLoop l).run P w = .ok jump w') :
    step P (lone (b.atR a (.endRangeFunc l :: k)) cs w) = .next (lone (b.atR a ((jump.map Item.code).toList ++ k)) cs w') :=
  step_lone_go (by simp [stepG, stepG.exec, Frame.atR, Sem.runT_eq, h, GStep.bare_after])

def rfCall (a : Act) (g : Operand) (l : Nat) : Sem Go.Next := do
  let d ← resolve a.eval { callee := .value g, args := #[.const (.func (.yield l) #[] #[])], argTypes := #[] } 0
  invoke d.target d.args

theorem stepG_rf {b : Frame} {a : Act} {g : Operand} {ps : Array Tmp} {asg body : Code} {k : List Item} {cs : List Frame} {w w1 : World} {l : Nat} {mk : List Deferred}
    (he : (Instr.enterLoop b.fn a.tmps ps asg body b.roundOf).run P w = .ok (l, mk) w1) :
    (stepG P true { frame := b.atR a (.code (.rangeFunc g ps asg body) :: k), callers := cs, status := .running, dying := none } w).bare =
      (stepG.apply P true (b.atR { a with defers := mk ++ a.defers } (.inRangeFunc l :: k)) cs none (rfCall a g l) w1).bare := by
  have hev := Frame.eval_atR b { a with defers := mk ++ a.defers } (.inRangeFunc l :: k)
  simp only [Frame.atR] at hev
  have hae : ({ tmps := a.tmps, defers := mk ++ a.defers } : Act).eval = a.eval := funext fun x => by cases x <;> rfl
  simp [stepG, stepG.exec, Frame.atR, Sem.runT_eq, he, GStep.bare_after, hev, hae, rfCall]

theorem run_rfCall (a : Act) (g : Operand) (l : Nat) (w : World) {fn : Fn} {first cap : Array Value} (h : a.eval g = .func fn first cap) :
    (rfCall a g l).run P w = (invoke (.fn fn cap) (first ++ #[Value.func (.yield l) #[] #[]])).run P w := by
  have ha : (#[Operand.const (.func (.yield l) #[] #[])]).map a.eval = #[Value.func (.yield l) #[] #[]] := by simp [Act.eval]
  simp only [rfCall, resolve, h, ha, Deferred.ofValue, Sem.run_bind, Sem.run_pure, Result.andThen_ok]

/-- The call of the function that is ranged over. -/
theorem sim_rfcall (hC : SimC P Θ C) (henv : EnvOK P Θ env) {l : Nat} {x : AV} {h h1 : AH} {v : AV}
    (e : rfF env C l x h = .ok v h1) {G : Gm} {w : World} {L : Loc} (hL : G l = some L) (r : RH P Θ G h w) {a : Act} {g : Operand} (hx : RV Θ G x (a.eval g)) (fr0 : Frame) (cs : List Frame) (hc : Frame.calm fr0) :
    ∃ G' w' v', Next P Θ G h w G' h1 w' ∧ RV Θ G' v v' ∧ Applied P fr0 cs (rfCall a g L.blk) w (lone (fr0.finish v') cs w') := by
  have hy : RV Θ G (.f (.yield l) [] []) (.func (.yield L.blk) #[] #[]) := .f (.yield hL) rfl rfl (fun i x y hx => by simp at hx) fun i x y hx => by simp at hx
  unfold rfF at e
  split at e
  · rename_i f first cap
    rw [listK_eq] at e
    obtain ⟨a', b', hp, r1, r2⟩ : ∃ a' b', a.eval g = .func (.func f) a' b' ∧ RL Θ G first a'.toList ∧ RL Θ G cap b'.toList := by
      generalize a.eval g = q at hx
      cases hx with | f hfn h1 h2 h3 h4 =>
        cases hfn
        have := RL.f_iff.1 (RV.f (Θ := Θ) (.func f) h1 h2 h3 h4)
        exact ⟨_, _, rfl, this.2.1, this.2.2⟩
    refine sim_nx (x := .call f (first ++ [AV.f (.yield l) [] []] ++ cap)) (h1 := h) hC henv e ⟨rfl, a' ++ #[Value.func (.yield L.blk) #[] #[]] ++ b', ?_, ?_⟩ r fr0 cs hc
    · rw [run_rfCall a g _ w hp]; simp only [invoke]
    · simp only [Array.toList_append]
      exact (r1.append (RL.cons hy .nil)).append r2
  · rename_i f
    obtain ⟨L', hL', hp⟩ : ∃ L', G f = some L' ∧ a.eval g = .func (.yield L'.blk) #[] #[] := by
      generalize a.eval g = q at hx
      cases hx with | f hfn h1 h2 _ _ =>
        cases hfn with | yield hL =>
          simp at h1 h2
          exact ⟨_, hL, by rw [Array.eq_empty_of_size_eq_zero h1.symm, Array.eq_empty_of_size_eq_zero h2.symm]⟩
    refine sim_nx (x := .yld f [AV.f (.yield l) [] []]) (h1 := h) hC henv e ⟨rfl, L', #[Value.func (.yield L.blk) #[] #[]], hL', ?_, RL.cons hy .nil⟩ r fr0 cs hc
    rw [run_rfCall a g _ w hp]; simp only [invoke]; rfl
  · cases e

theorem sim_loopEnd {l : Nat} {fr fr' : Fr} {h h' : AH} {j : AJ} (e : loopEnd l fr h = .ok (j, fr') h') {G : Gm} {w : World} {L : Loc} (hL : G l = some L) (r : RH P Θ G h w) (b : Frame) (a : Act) (k : List Item) (cs : List Frame) :
    fr' = fr ∧ ∃ w', Next P Θ G h w G h' w' ∧ Arr P (lone (b.atR a (.endRangeFunc L.blk :: k)) cs w) b k cs j a w' := by
  unfold loopEnd at e
  split at e
  · cases e
  · rename_i st pend n t ps asg body df hne hg
    obtain ⟨L', lp, hL', hx, rl⟩ := r.loopOf hg
    rw [hL] at hL'; cases hL'
    rw [hset_eq] at e
    obtain ⟨eq, rfl⟩ := ok_inj e
    cases eq
    have hst : lp.state ≠ .busy := by
      rw [rl.st]
      rintro rfl
      exact hne rfl
    refine ⟨rfl, _, Next.put r (ob := .loop { lp with state := .exhausted }) hg rfl hL ⟨_, rfl, rl.with rl.pend⟩, ?_⟩
    have hs := step_endRF (P := P) (b := b) (a := a) (k := k) (cs := cs) (run_endLoop hx hst)
    have hp := rl.pend
    generalize lp.pending = jump at hp hs
    cases j with
    | norm => cases jump with
      | none => exact .one hs
      | some c => exact hp.elim
    | exit id => cases jump with
      | none => exact hp.elim
      | some c =>
        cases c <;> first | exact hp.elim | skip
        have hp : id = _ := hp
        subst hp
        exact ⟨k, rfl, .one hs⟩
    | ret => cases jump with
      | none => exact hp.elim
      | some c =>
        cases c <;> first | exact hp.elim | skip
        exact ⟨k, .one hs⟩
  · cases e

theorem sim_rf (hC : SimC P Θ C) (henv : EnvOK P Θ env) {f : Operand} {ps : Array Tmp} {asg body : Code} {x : Rf} (hx : cRef f = some x) {fr fr' : Fr} {h h' : AH} {j : AJ}
    (e : stepC env C (.rf x ps.toList (cCode P asg) (cCode P body)) fr h = .ok (j, fr') h') {G : Gm} {w : World} {b : Frame} {a : Act} (k : List Item) (cs : List Frame) (r : RH P Θ G h w) (rf : RF Θ G fr b a) :
    ∃ G' w' a', Next P Θ G h w G' h' w' ∧ RF Θ G' fr' b a' ∧ Arr P (lone (b.atR a (.code (.rangeFunc f ps asg body) :: k)) cs w) b k cs j a' w' := by
  simp only [stepC] at e
  -- the record
  obtain ⟨l, fr1, h1, e, hl⟩ : ∃ l fr1 h1, ((rfF env C l (ev fr1.t x) h1).bind fun _ h => loopEnd l fr1 h) = .ok (j, fr') h' ∧
      ∃ G1 w1 L mk, Next P Θ G h w G1 h1 w1 ∧ G1 l = some L ∧ (Instr.enterLoop b.fn a.tmps ps asg body b.roundOf).run P w = .ok (L.blk, mk) w1 ∧ RF Θ G1 fr1 b { a with defers := mk ++ a.defers } ∧ fr1.t = fr.t := by
    unfold enterK at e
    split at e
    · rename_i hr
      simp only [hnew_eq] at e
      refine ⟨h.nx + 1, ⟨fr.t, fr.n, h.nx :: fr.d, none⟩, _, e, ?_⟩
      have hro : b.roundOf = none := by
        rcases rf.r with h | ⟨_, _, h, _⟩
        · exact h.2
        · rw [hr] at h; cases h
      have n1 : Next P Θ G h w _ _ _ := Next.new r (.dfr false) (.deferred (some [])) 0 rfl
      have n2 := Next.new n1.rh (.loop .ready .norm fr.n fr.t ps.toList (cCode P asg) (cCode P body) h.nx) (.loop { state := .ready, pending := none, fn := b.fn, tmps := a.tmps, params := ps, assign := asg, body, defers := w.heap.size }) 0
        ⟨_, rfl, rfl, trivial, (rf.t.ext n1.ext).ext (Ext.put n1.rh _), rfl, rfl, rfl, ⟨_, Ext.put n1.rh _ _ _ (Gm.put_same _ _ _), rfl⟩⟩
      have hsz : (w.alloc (.deferred (some []))).heap.size = w.heap.size + 1 := by show (w.heap.push _).size = _; simp
      refine ⟨_, _, _, [{ target := .collected w.heap.size, args := #[] }], n1.trans n2, Gm.put_same _ _ _, ?_, ⟨(rf.t.ext n1.ext).ext n2.ext, ?_, ?_, rf.k⟩, rfl⟩
      · rw [hro, hsz]; exact run_enterLoop_none w b.fn a.tmps ps asg body
      · obtain ⟨Ls, hd1, hd2⟩ := ((rf.ext n1.ext).ext n2.ext).d
        refine ⟨⟨w.heap.size, 0, 0⟩ :: Ls, ?_, ?_⟩
        · simp only [List.map_cons, hd1, List.cons.injEq, and_true]
          exact Ext.put n1.rh _ _ _ (Gm.put_same _ _ _)
        · simp only [List.map_cons, List.singleton_append, hd2]; rfl
      · exact .inl ⟨rfl, hro⟩
    · rename_i l0 hr
      obtain ⟨L0, hL0, hro⟩ : ∃ L0, G l0 = some L0 ∧ b.roundOf = some L0.blk := by
        rcases rf.r with h | ⟨l, L, h, h2, h3⟩
        · rw [hr] at h; cases h.1
        · rw [hr] at h; cases h; exact ⟨L, h2, h3⟩
      split at e
      · rename_i st0 pend0 n0 t0 ps0 asg0 body0 df hg0
        obtain ⟨L0', lp0, hL0', hx0, rl0⟩ := r.loopOf hg0
        rw [hL0] at hL0'; cases hL0'
        simp only [hnew_eq] at e
        refine ⟨h.nx, fr, _, e, ?_⟩
        obtain ⟨Ld, hd1, hd2⟩ := rl0.df
        have n2 := Next.new r (.loop .ready .norm fr.n fr.t ps.toList (cCode P asg) (cCode P body) df) (.loop { state := .ready, pending := none, fn := b.fn, tmps := a.tmps, params := ps, assign := asg, body, defers := lp0.defers }) 0
          ⟨_, rfl, rfl, trivial, rf.t.ext (Ext.put r _), rfl, rfl, rfl, ⟨Ld, Ext.put r _ _ _ hd1, hd2⟩⟩
        refine ⟨_, _, _, [], n2, Gm.put_same _ _ _, ?_, rf.ext n2.ext, rfl⟩
        rw [hro]; exact run_enterLoop_some hx0 b.fn a.tmps ps asg body
      · cases e
  obtain ⟨G1, w1, L, mk, n1, hL, hrun, rf1, ht⟩ := hl
  obtain ⟨v, h2, e1, e2⟩ := bind_inv e
  have hv := rf1.t.rref _ _ hx
  obtain ⟨G2, w2, v', n2, _, hap⟩ := sim_rfcall hC henv e1 hL n1.rh hv (b.atR { a with defers := mk ++ a.defers } (.inRangeFunc L.blk :: k)) cs trivial
  obtain ⟨rfl, w3, n3, harr⟩ := sim_loopEnd e2 (n2.ext _ _ hL) n2.rh b { a with defers := mk ++ a.defers } k cs
  refine ⟨G2, w3, _, (n1.trans n2).trans n3, rf1.ext n2.ext, .of_steps ?_ harr⟩
  rw [finish_inRF] at hap
  have hae : ∀ l, rfCall { a with defers := mk ++ a.defers } f l = rfCall a f l := fun l => by
    unfold rfCall
    rw [show ({ a with defers := mk ++ a.defers } : Act).eval = a.eval from funext fun x => by cases x <;> rfl]
  rw [hae] at hap
  exact steps_applied (stepG_rf hrun) hap

theorem sim_step (hΘ : Thin Θ) (hC : SimC P Θ C) (henv : EnvOK P Θ env) (hD : SimDraw P Θ C env) : SimC P Θ (stepC env C) := by
  intro c fr h j fr' h' e G w b a k cs r rf
  cases c with
  | skip =>
    obtain ⟨eq, rfl⟩ := ok_inj e
    cases eq
    exact ⟨G, w, a, .refl r, rf, .one stepR_skip⟩
  | region id ops draw =>
    simp only [cCode] at e
    cases draw with
    | false =>
      simp only [Bool.false_eq_true, if_false, stepC] at e
      obtain ⟨t1, h1, e1, e2⟩ := bind_inv e
      obtain ⟨eq, rfl⟩ := ok_inj e2
      cases eq
      rw [toList_ops] at e1
      obtain ⟨G', w', a', n1, ht, hd, hs⟩ := sim_ops hΘ hC henv e1 (fun i hi => by simpa using hi) r rf.t b k cs
      refine ⟨G', w', a', n1, ⟨ht, ?_, (rf.ext n1.ext).r, rf.k⟩, .head stepR_region (hs.trans (.one stepR_region_end))⟩
      rw [hd]; exact (rf.ext n1.ext).d
    | true =>
      simp only [if_true] at e
      split at e
      · rename_i hpl
        simp only [stepC, natK_eq] at e
        obtain ⟨t1, h1, e1, e2⟩ := bind_inv e
        obtain ⟨eq, rfl⟩ := ok_inj e2
        cases eq
        have n0 := Next.drew (P := P) r
        obtain ⟨G', w', a', n1, ht, hd, hs⟩ := hD ops _ _ _ _ rfl hpl _ _ _ _ _ e1 (w.tape w.drawn (.order b.fn id)) G w.drew a n0.rh rf.t b k cs
        refine ⟨G', w', a', n0.trans n1, ⟨ht, ?_, (rf.ext n1.ext).r, rf.k⟩, .head stepR_region_draw (hs.trans (.one stepR_region_end))⟩
        rw [hd]; exact (rf.ext n1.ext).d
      · cases e
  | seq x y =>
    simp only [cCode, stepC] at e
    obtain ⟨⟨j1, fr1⟩, h1, e1, e2⟩ := bind_inv e
    obtain ⟨G1, w1, a1, n1, rf1, harr⟩ := hC x fr h j1 fr1 h1 e1 G w b a (.code y :: k) cs r rf
    by_cases hj : j1 = .norm
    · subst hj
      obtain ⟨G2, w2, a2, n2, rf2, harr2⟩ := hC y fr1 h1 j fr' h' e2 G1 w1 b a1 k cs n1.rh rf1
      exact ⟨G2, w2, a2, n1.trans n2, rf2, .of_steps (.head stepR_seq harr) harr2⟩
    · have : j1 = j ∧ fr1 = fr' ∧ h1 = h' := by
        cases j1 with
        | norm => exact absurd rfl hj
        | exit id => obtain ⟨eq, rfl⟩ := ok_inj e2; cases eq; exact ⟨rfl, rfl, rfl⟩
        | ret => obtain ⟨eq, rfl⟩ := ok_inj e2; cases eq; exact ⟨rfl, rfl, rfl⟩
      obtain ⟨rfl, rfl, rfl⟩ := this
      exact ⟨G1, w1, a1, n1, rf1, .of_steps (.one stepR_seq) (.pass (k' := _ :: k) (fun id => rfl) hj harr)⟩
  | cond x y z =>
    simp only [cCode] at e
    split at e
    · rename_i x' hx
      simp only [stepC] at e
      have hv := rf.t.rref _ _ hx
      have hcond : ∀ q, bval env.fact (ev fr.t x') = some q → a.eval x = .bool q := fun q hq => bval_sound henv.fact hv hq
      split at e
      · rename_i hq
        obtain ⟨G1, w1, a1, n1, rf1, harr⟩ := hC y fr h j fr' h' e G w b a k cs r rf
        exact ⟨G1, w1, a1, n1, rf1, .of_steps (.one (by simpa using stepR_cond (hcond _ hq))) harr⟩
      · rename_i hq
        obtain ⟨G1, w1, a1, n1, rf1, harr⟩ := hC z fr h j fr' h' e G w b a k cs r rf
        exact ⟨G1, w1, a1, n1, rf1, .of_steps (.one (by simpa using stepR_cond (hcond _ hq))) harr⟩
      · cases e
    · cases e
  | block id x =>
    simp only [cCode, stepC] at e
    obtain ⟨⟨j1, fr1⟩, h1, e1, e2⟩ := bind_inv e
    obtain ⟨G1, w1, a1, n1, rf1, harr⟩ := hC x fr h j1 fr1 h1 e1 G w b a (.inBlock id :: k) cs r rf
    cases j1 with
    | norm =>
      obtain ⟨eq, rfl⟩ := ok_inj e2; cases eq
      exact ⟨G1, w1, a1, n1, rf1, .head stepR_block (Steps.trans harr (.one stepR_inBlock))⟩
    | exit i =>
      obtain ⟨k1, hk1, hs⟩ := harr
      simp only at e2
      split at e2
      · rename_i hid
        have hid : i = id := Nat.eq_of_beq_eq_true hid
        subst hid
        obtain ⟨eq, rfl⟩ := ok_inj e2; cases eq
        exact ⟨G1, w1, a1, n1, rf1, .head stepR_block (hs.trans (.one (stepR_exit (by rw [hk1]; simp [exitTo]))))⟩
      · rename_i hid
        have hid : ¬ id = i := fun e => by subst e; rw [Nat.beq_refl] at hid; cases hid
        obtain ⟨eq, rfl⟩ := ok_inj e2; cases eq
        refine ⟨G1, w1, a1, n1, rf1, k1, ?_, .head stepR_block hs⟩
        rw [hk1]
        simp [exitTo, hid]
    | ret =>
      obtain ⟨eq, rfl⟩ := ok_inj e2; cases eq
      obtain ⟨k1, hs⟩ := harr
      exact ⟨G1, w1, a1, n1, rf1, k1, .head stepR_block hs⟩
  | loop x =>
    simp only [cCode, stepC] at e
    obtain ⟨⟨j1, fr1⟩, h1, e1, e2⟩ := bind_inv e
    obtain ⟨G1, w1, a1, n1, rf1, harr⟩ := hC x fr h j1 fr1 h1 e1 G w b a (.inLoop x :: k) cs r rf
    by_cases hj : j1 = .norm
    · subst hj
      have e2 : C (cCode P (.loop x)) fr1 h1 = .ok (j, fr') h' := e2
      obtain ⟨G2, w2, a2, n2, rf2, harr2⟩ := hC (.loop x) fr1 h1 j fr' h' e2 G1 w1 b a1 k cs n1.rh rf1
      refine ⟨G2, w2, a2, n1.trans n2, rf2, .of_steps (.head stepR_loop (Steps.trans harr (.one stepR_inLoop))) ?_⟩
      cases j with
      | norm => exact Steps.tail harr2 stepR_loop (lone_ne (by intro e; have := congrArg List.length e; simp at this))
      | exit id => obtain ⟨k1, hk1, hs⟩ := harr2; exact ⟨k1, hk1, Steps.tail hs stepR_loop (lone_ne (by simp))⟩
      | ret => obtain ⟨k1, hs⟩ := harr2; exact ⟨k1, Steps.tail hs stepR_loop (lone_ne (by simp))⟩
    · have : j1 = j ∧ fr1 = fr' ∧ h1 = h' := by
        cases j1 with
        | norm => exact absurd rfl hj
        | exit id => obtain ⟨eq, rfl⟩ := ok_inj e2; cases eq; exact ⟨rfl, rfl, rfl⟩
        | ret => obtain ⟨eq, rfl⟩ := ok_inj e2; cases eq; exact ⟨rfl, rfl, rfl⟩
      obtain ⟨rfl, rfl, rfl⟩ := this
      exact ⟨G1, w1, a1, n1, rf1, .of_steps (.one stepR_loop) (.pass (k' := _ :: k) (fun id => rfl) hj harr)⟩
  | rangeFunc f ps asg body =>
    simp only [cCode] at e
    split at e
    · rename_i x hx
      exact sim_rf hC henv hx e k cs r rf
    · cases e
  | exit id =>
    obtain ⟨eq, rfl⟩ := ok_inj e
    cases eq
    exact ⟨G, w, a, .refl r, rf, k, rfl, .refl _ _⟩
  | ret =>
    obtain ⟨eq, rfl⟩ := ok_inj e
    cases eq
    exact ⟨G, w, a, .refl r, rf, k, .refl _ _⟩
  | scope x => cases e
  | label l => cases e
  | goto l => cases e
  | refuse y => cases e

end
end Go.Proofs.YtmlfcopllfdjfaaGreat.Am
