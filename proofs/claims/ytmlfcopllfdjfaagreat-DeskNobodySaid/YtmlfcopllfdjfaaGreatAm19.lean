/- An abstract machine for the program's code, and that it is sound: part Am19. -/
import Derived.Test.YtmlfcopllfdjfaaGreatAm18
namespace Go.Proofs.YtmlfcopllfdjfaaGreat.Am
variable {P : Program} {Θ : Th} {G : Gm}

theorem bind_inv {α β : Type} {r : Res α} {f : α → AH → Res β} {b : β} {h' : AH} (e : r.bind f = .ok b h') : ∃ a h, r = .ok a h ∧ f a h = .ok b h' := by
  cases r with
  | ok a h => exact ⟨a, h, rfl, e⟩
  | err n => cases e
  | ask n k => cases e

def Arr (P : Program) (m : Machine) (b : Frame) (k : List Item) (cs : List Frame) : AJ → Act → World → Prop
  | .norm, a, w => Steps P m (lone (b.atR a k) cs w)
  | .exit id, a, w => ∃ k1, exitTo id k1 = exitTo id k ∧ Steps P m (lone (b.atR a (.code (.exit id) :: k1)) cs w)
  | .ret, a, w => ∃ k1, Steps P m (lone (b.atR a (.code .ret :: k1)) cs w)

theorem Arr.of_steps {m m1 : Machine} {b : Frame} {k : List Item} {cs : List Frame} {j : AJ} {a : Act} {w : World} (h : Steps P m m1) (h' : Arr P m1 b k cs j a w) : Arr P m b k cs j a w := by
  cases j with
  | norm => exact h.trans h'
  | exit id => obtain ⟨k1, h1, h2⟩ := h'; exact ⟨k1, h1, h.trans h2⟩
  | ret => obtain ⟨k1, h2⟩ := h'; exact ⟨k1, h.trans h2⟩

/-- A jump passes an item that no jump looks at. -/
theorem Arr.pass {m : Machine} {b : Frame} {k k' : List Item} {cs : List Frame} {j : AJ} {a : Act} {w : World} (hk : ∀ id, exitTo id k' = exitTo id k) (hj : j ≠ .norm) (h : Arr P m b k' cs j a w) : Arr P m b k cs j a w := by
  cases j with
  | norm => exact absurd rfl hj
  | exit id => obtain ⟨k1, h1, h2⟩ := h; exact ⟨k1, h1.trans (hk id), h2⟩
  | ret => exact h

def SimC (P : Program) (Θ : Th) (C : AC → Fr → AH → Res (AJ × Fr)) : Prop :=
  ∀ (c : Code) (fr : Fr) (h : AH) (j : AJ) (fr' : Fr) (h' : AH), C (cCode P c) fr h = .ok (j, fr') h' →
    ∀ (G : Gm) (w : World) (b : Frame) (a : Act) (k : List Item) (cs : List Frame), RH P Θ G h w → RF Θ G fr b a →
      ∃ G' w' a', Next P Θ G h w G' h' w' ∧ RF Θ G' fr' b a' ∧ Arr P (lone (b.atR a (.code c :: k)) cs w) b k cs j a' w'

section
variable {C : AC → Fr → AH → Res (AJ × Fr)} {env : Env}

theorem cFun_inv {f : FuncId} {af : AF} (h : cFun P f = some af) : ∃ fn body, P.funcs[f]? = some fn ∧ fn.body = some body ∧ (fn.name == "runtime.NumGoroutine") = false ∧ fn.results.toList.mapM (cRes P) = some af.res ∧ af.n = fn.ntmps ∧ af.body = cCode P body := by
  unfold cFun at h
  obtain ⟨fn, h1, h⟩ := Option.bind_eq_some_iff.1 h
  unfold cFunOf at h
  obtain ⟨body, h2, h⟩ := Option.bind_eq_some_iff.1 h
  split at h
  · cases h
  · rename_i hn
    obtain ⟨res, h3, h⟩ := Option.bind_eq_some_iff.1 h
    cases h
    exact ⟨fn, body, h1, h2, by simpa using hn, h3, rfl, rfl⟩

theorem sim_call (hC : SimC P Θ C) (henv : EnvOK P Θ env) {f : Nat} {args : List AV} {h h' : AH} {v : AV} (e : callF env C f args h = .ok v h')
    {G : Gm} {w : World} {cargs : Array Value} (cs : List Frame) (r : RH P Θ G h w) (ha : RL Θ G args cargs.toList) :
    ∃ G' w' v', Next P Θ G h w G' h' w' ∧ RV Θ G' v v' ∧ (callFunc f cargs).run P w = .ok (.enter f cargs) w ∧
      ∃ fr : Frame, Steps P (lone (Frame.enter P f cargs .normal) cs w) (lone fr cs w') ∧ fr.fn = f ∧ fr.leaving P w' (.returned v') := by
  unfold callF at e
  split at e
  · rename_i v0 h0 hx
    obtain ⟨rfl, rfl⟩ := ok_inj e
    obtain ⟨⟨af, haf⟩, hc⟩ := henv.ext _ _ _ _ _ hx
    obtain ⟨fn, body, hf, hb, hnm, _⟩ := cFun_inv haf
    obtain ⟨ev, w', fr, ⟨G', v', rfl, hv, n1⟩, hs, hfn, hl⟩ := hc G w cargs r ha cs
    have hcall : (callFunc f cargs).run P w = .ok (.enter f cargs) w := by
      simp only [callFunc, Sem.run_bind, run_program, Result.andThen_ok, hf, hnm, hb, Option.isNone_some, Bool.false_eq_true, if_false]
      rfl
    exact ⟨G', w', v', n1, hv, hcall, fr, hs, hfn, hl⟩
  split at e
  · cases e
  · rename_i af haf
    obtain ⟨fn, body, hf, hb, hnm, hres, hn, hbody⟩ := cFun_inv (henv.fn _ _ haf)
    split at e
    · cases e
    · rename_i hle
      have hle : args.length ≤ af.n := by simpa using hle
      obtain ⟨t', e, ht⟩ := tmpsOf_inv e
      obtain ⟨⟨j, fr'⟩, h1, e1, e2⟩ := bind_inv e
      rw [hbody] at e1
      let b : Frame := { (default : Frame) with fn := f, kind := .normal }
      have hent : Frame.enter P f cargs .normal = b.atR { tmps := cargs ++ Array.replicate (af.n - cargs.size) undef, defers := [] } [.code body] := by
        simp [Frame.enter, Frame.atR, hf, hb, b, hn]
        rfl
      obtain ⟨G1, w1, a1, n1, rf, harr⟩ := hC body _ h j fr' h1 e1 G w b { tmps := cargs ++ Array.replicate (af.n - cargs.size) undef, defers := [] } [] cs r
        ⟨entered ha hle ht, ⟨[], rfl, rfl⟩, .inl ⟨rfl, rfl⟩, rfl⟩
      have hcall : (callFunc f cargs).run P w = .ok (.enter f cargs) w := by
        simp only [callFunc, Sem.run_bind, run_program, Result.andThen_ok, hf, hnm, hb, Option.isNone_some, Bool.false_eq_true, if_false]
        rfl
      obtain ⟨k1, hs⟩ : ∃ k1, Steps P (lone (Frame.enter P f cargs .normal) cs w) (lone { b.atR a1 k1 with mode := .returning } cs w1) := by
        rw [hent]
        cases j with
        | norm => exact ⟨_, Steps.trans harr (.one (stepR_end rfl))⟩
        | exit id => cases e2
        | ret => obtain ⟨k1, hs⟩ := harr; exact ⟨_, hs.trans (.one (stepR_ret rfl))⟩
      have e2 : fin af.res fr' h1 = .ok v h' := by
        cases j with
        | norm => exact e2
        | exit id => cases e2
        | ret => exact e2
      unfold fin at e2
      obtain ⟨h2, e2, hu⟩ := sim_untake e2
      obtain ⟨Ls, hd1, hd2⟩ := rf.d
      obtain ⟨w2, n2, hs2⟩ := hu n1.rh hd1
      have hs2 := hs2 { b.atR a1 k1 with mode := .returning } cs rfl hd2
      have hv : ∃ vs, ress fr'.t h2 af.res = some vs ∧ v = (match vs with | [v] => v | l => .tp l) ∧ h' = h2 := by
        split at e2
        · rename_i v0 hr; obtain ⟨rfl, rfl⟩ := ok_inj e2; exact ⟨_, hr, rfl, rfl⟩
        · rename_i l hne hr
          obtain ⟨rfl, rfl⟩ := ok_inj e2
          refine ⟨_, hr, ?_, rfl⟩
          split
          · exact absurd rfl (hne _)
          · rfl
        · cases e2
      obtain ⟨vs, hr, rfl, rfl⟩ := hv
      obtain ⟨cv, hcv, hrun⟩ := results_sound (P := P) n2.rh rf.t hres hr
      exact ⟨G1, w2, cv, n1.trans n2, hcv, hcall, _, hs.trans hs2, rfl, rfl, rfl, rfl, fn, hf, hrun⟩

theorem sim_round (hC : SimC P Θ C) {l : Nat} {args : List AV} {h h' : AH} {v : AV} (e : roundF C l args h = .ok v h')
    {G : Gm} {w : World} {cargs : Array Value} {L : Loc} (caller : Frame) (cs : List Frame) (hL : G l = some L) (r : RH P Θ G h w) (ha : RL Θ G args cargs.toList) :
    ∃ G' w' v', Next P Θ G h w G' h' w' ∧ RV Θ G' v v' ∧ ∃ fn tmps asg body, (Instr.yield L.blk cargs).run P w = .ok (.round L.blk fn tmps asg body) w ∧
      Steps P (lone (Frame.round L.blk fn tmps asg body .normal) (caller :: cs) w) (lone (caller.finish v') cs w') := by
  unfold roundF at e
  split at e
  · rename_i st pend n t ps asg body df hg
    obtain ⟨L', lp, hL', hx, rl⟩ := r.loopOf hg
    rw [hL] at hL'; cases hL'
    obtain ⟨t', e, ht⟩ := pset_inv e
    obtain ⟨hsz, hrt⟩ := ht ha rl.tmps
    obtain ⟨⟨j, fr1⟩, h1, e1, e⟩ := bind_inv e
    rw [← rl.asg] at e1
    have hsz' : cargs.size = lp.params.size := by
      have h1 := congrArg List.length rl.ps
      simp only [Array.length_toList] at h1 hsz
      omega
    let tmps := (lp.params.zip cargs).foldl (fun tmps (t, a) => tmps.setIfInBounds t a) lp.tmps
    have htm : tmps = (ps.zip cargs.toList).foldl (fun tmps (t, a) => tmps.setIfInBounds t a) lp.tmps := by
      show (lp.params.zip cargs).foldl (fun tmps (t, a) => tmps.setIfInBounds t a) lp.tmps = _
      rw [← Array.foldl_toList, Array.toList_zip, rl.ps]
    let b : Frame := { (default : Frame) with fn := lp.fn, kind := .normal, roundOf := some L.blk }
    have hent : Frame.round L.blk lp.fn tmps lp.assign lp.body .normal = b.atR { tmps := tmps, defers := [] } [.code lp.assign, .beginRound, .code lp.body] := by
      simp [Frame.round, Frame.atR, b]
    obtain ⟨G1, w1, a1, n1, rf1, harr1⟩ := hC lp.assign _ h j fr1 h1 e1 G w b { tmps := tmps, defers := [] } [.beginRound, .code lp.body] (caller :: cs) r
      ⟨by rw [htm]; exact hrt, ⟨[], rfl, rfl⟩, .inr ⟨l, L, rfl, hL, rfl⟩, rfl⟩
    cases j with
    | exit id => cases e
    | ret => cases e
    | norm =>
      simp only at e
      split at e
      · rename_i pend1 n1' t1 ps1 asg1 body1 df1 hg1
        obtain ⟨L1, lp1, hL1, hx1, rl1⟩ := n1.rh.loopOf hg1
        rw [n1.ext _ _ hL] at hL1; cases hL1
        rw [hset_eq] at e
        have n2 : Next P Θ G1 h1 w1 G1 _ _ := Next.put n1.rh (o' := .loop .busy pend1 n1' t1 ps1 asg1 body1 df1) (ob := .loop { lp1 with state := .busy }) hg1 rfl (n1.ext _ _ hL) ⟨_, rfl, rl1.with rl1.pend⟩
        obtain ⟨⟨j2, fr2⟩, h2, e2, e⟩ := bind_inv e
        rw [← rl.body] at e2
        obtain ⟨G2, w2, a2, n3, rf2, harr2⟩ := hC lp.body _ _ j2 fr2 h2 e2 G1 _ b a1 [] (caller :: cs) n2.rh rf1
        have n13 := (n1.trans n2).trans n3
        simp only at e
        split at e
        · rename_i st2 pend2 n2' t2 ps2 asg2 body2 df2 hg2
          obtain ⟨L2, lp2, hL2, hx2, rl2⟩ := n3.rh.loopOf hg2
          rw [n13.ext _ _ hL] at hL2; cases hL2
          have hpre : Steps P (lone (Frame.round L.blk lp.fn tmps lp.assign lp.body .normal) (caller :: cs) w) (lone (b.atR a1 [.code lp.body]) (caller :: cs) (wput w1 L.blk (.loop { lp1 with state := .busy }))) := by
            rw [hent]
            exact Steps.trans harr1 (.one (stepR_beginRound rfl (run_beginRound hx1 rl1.st)))
          have hfin : ∀ (j' : AJ) (st' : LoopState) (jump : Option Code), RPend j' jump → st' = (if jump.isNone then .ready else .done) →
              Next P Θ G2 h2 w2 G2 ⟨h2.nx, h2.o.set l (.loop st' j' n2' t2 ps2 asg2 body2 df2)⟩ (wput w2 L.blk (.loop { lp2 with state := if jump.isNone then .ready else .done, pending := jump })) := by
            intro j' st' jump hp hst
            subst hst
            exact Next.put n3.rh (ob := .loop { lp2 with state := _, pending := jump }) hg2 rfl (n13.ext _ _ hL) ⟨_, rfl, rl2.with hp⟩
          cases j2 with
          | norm =>
            simp only [hset_eq] at e
            obtain ⟨rfl, rfl⟩ := ok_inj e
            refine ⟨G2, _, .bool true, n13.trans (hfin .norm .ready none trivial rfl), .b true, _, _, _, _, run_yield hx hsz', ?_⟩
            exact hpre.trans (Steps.trans harr2 (.one (stepR_round_end rfl rfl (run_endRound hx2 none))))
          | exit id =>
            simp only [hset_eq] at e
            obtain ⟨rfl, rfl⟩ := ok_inj e
            obtain ⟨k1, hk1, hs⟩ := harr2
            refine ⟨G2, _, .bool false, n13.trans (hfin (.exit id) .done (some (.exit id)) rfl rfl), .b false, _, _, _, _, run_yield hx hsz', ?_⟩
            exact hpre.trans (Steps.trans hs (.one (stepR_round_exit rfl rfl hk1 (run_endRound hx2 (some (.exit id))))))
          | ret =>
            simp only [hset_eq] at e
            obtain ⟨rfl, rfl⟩ := ok_inj e
            obtain ⟨k1, hs⟩ := harr2
            refine ⟨G2, _, .bool false, n13.trans (hfin .ret .done (some .ret) trivial rfl), .b false, _, _, _, _, run_yield hx hsz', ?_⟩
            exact hpre.trans (Steps.trans hs (.one (stepR_round_ret rfl rfl (run_endRound hx2 (some .ret)))))
        · cases e
      · cases e
  · cases e

theorem sim_nx (hC : SimC P Θ C) (henv : EnvOK P Θ env) {x : Nx} {h h1 h' : AH} {v : AV} (e : doNx env C x h1 = .ok v h') {G : Gm} {w : World} {s : Sem Go.Next} (ho : OpOK P Θ G h w x h1 (s.run P w)) (r : RH P Θ G h w)
    (fr : Frame) (cs : List Frame) (hc : Frame.calm fr) : ∃ G' w' v', Next P Θ G h w G' h' w' ∧ RV Θ G' v v' ∧ Applied P fr cs s w (lone (fr.finish v') cs w') := by
  cases x with
  | v a =>
    obtain ⟨nxt, w', G', hr, n, hv⟩ := ho
    obtain ⟨rfl, rfl⟩ := ok_inj e
    rcases hv with ⟨cv, rfl, hv⟩ | ⟨rfl, rfl⟩
    · exact ⟨G', w', cv, n, hv, applied_value hr⟩
    · exact ⟨G', w', undef, n, RV.un, applied_skip hr⟩
  | call f args =>
    obtain ⟨rfl, cargs, hr, ha⟩ := ho
    obtain ⟨G', w', v', n, hv, hent, fr1, hs, hfn, hl⟩ := sim_call hC henv e (fr :: cs) r ha
    exact ⟨G', w', v', n, hv, applied_enter hc (hr.trans hent) (hs.trans (.one (step_leave_returned hl)))⟩
  | yld l args =>
    obtain ⟨rfl, L, cargs, hL, hr, ha⟩ := ho
    obtain ⟨G', w', v', n, hv, fn, tmps, asg, body, hy, hs⟩ := sim_round hC e fr cs hL r ha
    exact ⟨G', w', v', n, hv, applied_round (hr.trans hy) hs⟩

theorem steps_applied {fr0 fr : Frame} {cs : List Frame} {w w1 : World} {s : Sem Go.Next} {m : Machine}
    (h : (stepG P true { frame := fr0, callers := cs, status := .running, dying := none } w).bare = (stepG.apply P true fr cs none s w1).bare) (ha : Applied P fr cs s w1 m) : Steps P (lone fr0 cs w) m := by
  obtain ⟨fr1, cs1, w2, h1, h2⟩ := ha
  exact .head (step_lone_go (h.trans h1)) h2

/-! ### Regions -/

theorem sim_op (hΘ : Thin Θ) (hC : SimC P Θ C) (henv : EnvOK P Θ env) {ops : Array Oper} {i : Nat} {o : Oper} (ho : ops[i]? = some o) {n : Nat} {t : Tr AV} {h h1 : AH} {v : AV} (hw : want env.fact t (cOper P ops o).g = some true)
    (hx : (xopE env.fact (ev t) (cOper P ops o).o h).bind (doNx env C) = .ok v h1) {G : Gm} {w : World} {a : Act} (r : RH P Θ G h w) (ht : RT Θ G n t a.tmps) (b : Frame) (rest : List Nat) (k : List Item) (cs : List Frame) :
    ∃ G1 w1 v', Next P Θ G h w G1 h1 w1 ∧ RV Θ G1 v v' ∧ Steps P (lone (b.atR a (.inRegion ops (i :: rest) :: k)) cs w) (lone (b.atR (a.put o.dst v') (.inRegion ops rest :: k)) cs w1) := by
  obtain ⟨x, h2, e1, e2⟩ := bind_inv hx
  have hnb : (cOper P ops o).o ≠ .bad 1 := fun e => by rw [e] at e1; cases e1
  obtain ⟨hwd, hco, _⟩ := want_sound henv.fact ht ops o hw (fun _ => hnb)
  rw [hco] at e1
  have hnd : ∀ c, o.op ≠ .defer c := fun c e => by rw [e] at e1; cases e1
  have hok := xopE_sound (P := P) hΘ henv.fact e1 ht.rref (fun _ => rfl) (fun _ => rfl) r
  obtain ⟨G', w', v', n1, hv, hap⟩ := sim_nx hC henv e2 hok r (b.atR a (.inRegion ops (i :: rest) :: k)) cs trivial
  refine ⟨G', w', v', n1, hv, ?_⟩
  have hfin := Frame.finish_atR b a ops i rest k v'
  rw [ho] at hfin
  rw [hfin] at hap
  refine steps_applied ?_ hap
  rw [stepGR_op ho hwd, Oper.semAt_eq _ _ _ hnd]

theorem sim_op_skip (hF : FactOK P Θ env.fact) {ops : Array Oper} {i : Nat} {o : Oper} (ho : ops[i]? = some o) {n : Nat} {t : Tr AV} (hw : want env.fact t (cOper P ops o).g = some false)
    {G : Gm} {w : World} {a : Act} (ht : RT Θ G n t a.tmps) (b : Frame) (rest : List Nat) (k : List Item) (cs : List Frame) :
    Steps P (lone (b.atR a (.inRegion ops (i :: rest) :: k)) cs w) (lone (b.atR (a.put o.dst undef) (.inRegion ops rest :: k)) cs w) := by
  obtain ⟨hwd, _, _⟩ := want_sound hF ht ops o hw (by simp)
  have := stepR_op_skip (P := P) (b := b) (a := a) (k := k) (cs := cs) (w := w) (ops := ops) (i := i) (rest := rest) (by rw [ho]; simpa using hwd)
  rw [ho] at this
  exact .one this

end
end Go.Proofs.YtmlfcopllfdjfaaGreat.Am
