/- An abstract machine for the program's code, and that it is sound: part Am18. -/
import Derived.Test.YtmlfcopllfdjfaaGreatAm17
namespace Go.Proofs.YtmlfcopllfdjfaaGreat.Am
variable {P : Program} {Θ : Th} {G : Gm}

/-! ### The records of loops -/

theorem RH.loopOf {h : AH} {w : World} (r : RH P Θ G h w) {l : Nat} {st : LoopState} {pend : AJ} {n : Nat} {t : Tr AV} {ps : List Nat} {asg body : AC} {df : Nat} (hg : h.o.get l = some (.loop st pend n t ps asg body df)) :
    ∃ L lp, G l = some L ∧ w.heap[L.blk]? = some (.loop lp) ∧ RLoop P Θ G st pend n t ps asg body df lp := by
  obtain ⟨L, hL, lp, hx, hr⟩ := r.obj l _ hg rfl
  exact ⟨L, lp, hL, hx, hr⟩

theorem run_getLoop {w : World} {blk : Nat} {lp : Loop} (h : w.heap[blk]? = some (.loop lp)) : (Instr.getLoop blk).run P w = .ok lp w := by
  have hg := run_getObj (P := P) h (fun _ _ _ => by simp)
  simp [Instr.getLoop, hg]

theorem run_setLoop {w : World} {blk : Nat} {lp : Loop} (h : w.heap[blk]? = some (.loop lp)) (ob : Obj) : (setObj blk ob).run P w = .ok () (wput w blk ob) :=
  run_setObj (P := P) h (fun _ _ _ => by simp)

theorem run_beginRound {w : World} {blk : Nat} {lp : Loop} (h : w.heap[blk]? = some (.loop lp)) (hs : lp.state = .ready) :
    (Instr.beginRound blk).run P w = .ok () (wput w blk (.loop { lp with state := .busy })) := by
  simp [Instr.beginRound, run_getLoop (P := P) h, run_setLoop (P := P) h, hs]

theorem run_endRound {w : World} {blk : Nat} {lp : Loop} (h : w.heap[blk]? = some (.loop lp)) (jump : Option Code) :
    (Instr.endRound blk jump).run P w = .ok (.bool jump.isNone) (wput w blk (.loop { lp with state := if jump.isNone then .ready else .done, pending := jump })) := by
  simp [Instr.endRound, run_getLoop (P := P) h, run_setLoop (P := P) h]

theorem run_endLoop {w : World} {blk : Nat} {lp : Loop} (h : w.heap[blk]? = some (.loop lp)) (hs : lp.state ≠ .busy) :
    (Instr.endLoop blk).run P w = .ok lp.pending (wput w blk (.loop { lp with state := .exhausted })) := by
  simp [Instr.endLoop, run_getLoop (P := P) h, run_setLoop (P := P) h, hs]

theorem run_yield {w : World} {blk : Nat} {lp : Loop} (h : w.heap[blk]? = some (.loop lp)) {args : Array Value} (hs : args.size = lp.params.size) :
    (Instr.yield blk args).run P w = .ok (.round blk lp.fn ((lp.params.zip args).foldl (fun tmps (t, a) => tmps.setIfInBounds t a) lp.tmps) lp.assign lp.body) w := by
  simp [Instr.yield, run_getLoop (P := P) h, hs]

theorem run_enterLoop_none (w : World) (fn : FuncId) (tmps : Array Value) (ps : Array Tmp) (asg body : Code) :
    (Instr.enterLoop fn tmps ps asg body none).run P w = .ok (w.heap.size + 1, [{ target := .collected w.heap.size, args := #[] }])
      ((w.alloc (.deferred (some []))).alloc (.loop { state := .ready, pending := none, fn, tmps, params := ps, assign := asg, body, defers := w.heap.size })) := by
  have h1 : (newObj (.deferred (some []))).run P w = .ok w.heap.size (w.alloc (.deferred (some []))) := rfl
  have h2 : ∀ ob, (newObj ob).run P (w.alloc (.deferred (some []))) = .ok (w.heap.size + 1) ((w.alloc (.deferred (some []))).alloc ob) := fun ob => by
    show Result.ok ((w.alloc (.deferred (some []))).heap.size) _ = _
    have : (w.alloc (.deferred (some []))).heap.size = w.heap.size + 1 := by show (w.heap.push _).size = _; simp
    rw [this]
    rfl
  simp only [Instr.enterLoop, Sem.run_bind, Sem.run_pure, Result.andThen_ok, h1, h2]

theorem run_enterLoop_some {w : World} {blk : Nat} {lp : Loop} (h : w.heap[blk]? = some (.loop lp)) (fn : FuncId) (tmps : Array Value) (ps : Array Tmp) (asg body : Code) :
    (Instr.enterLoop fn tmps ps asg body (some blk)).run P w = .ok (w.heap.size, [])
      (w.alloc (.loop { state := .ready, pending := none, fn, tmps, params := ps, assign := asg, body, defers := lp.defers })) := by
  have h2 : ∀ ob, (newObj ob).run P w = .ok w.heap.size (w.alloc ob) := fun ob => rfl
  simp only [Instr.enterLoop, Sem.run_bind, Sem.run_pure, Result.andThen_ok, run_getLoop (P := P) h, h2]

theorem RLoop.with {st st' : LoopState} {pend pend' : AJ} {n : Nat} {t : Tr AV} {ps : List Nat} {asg body : AC} {df : Nat} {lp : Loop} (h : RLoop P Θ G st pend n t ps asg body df lp) {jump : Option Code} (hp : RPend pend' jump) :
    RLoop P Θ G st' pend' n t ps asg body df { lp with state := st', pending := jump } := ⟨rfl, hp, h.tmps, h.ps, h.asg, h.body, h.df⟩

/-! ### Parameters of a round -/

theorem pset_inv {α : Type} {n : Nat} {x : α} {h : AH} : ∀ {ps : List Nat} {vs : List AV} {t : Tr AV} {c : Tr AV → Res α}, pset n ps vs t c = .ok x h →
    ∃ t', c t' = .ok x h ∧ ∀ {G : Gm} {cs : List Value} {tmps : Array Value}, RL Θ G vs cs → RT Θ G n t tmps → ps.length = cs.length ∧ RT Θ G n t' ((ps.zip cs).foldl (fun tmps (t, a) => tmps.setIfInBounds t a) tmps)
  | [], [], t, c, e => ⟨t, e, fun h1 h2 => by rw [h1.nil_inv]; exact ⟨rfl, h2⟩⟩
  | [], _ :: _, t, c, e => by cases e
  | _ :: _, [], t, c, e => by cases e
  | p :: ps, v :: vs, t, c, e => by
    simp only [pset] at e
    split at e
    · rename_i hlt
      have hlt : p < n := by simpa using hlt
      rw [Tr.setK_eq] at e
      obtain ⟨t', e', hh⟩ := pset_inv e
      refine ⟨t', e', fun h1 h2 => ?_⟩
      obtain ⟨y, b', rfl, hy, hb⟩ := h1.cons_inv
      obtain ⟨q1, q2⟩ := hh hb (h2.set hlt hy)
      exact ⟨by simp [q1], q2⟩
    · cases e

theorem tmpsOf_inv {α : Type} {x : α} {h : AH} : ∀ {vs : List AV} {i : Nat} {t : Tr AV} {c : Tr AV → Res α}, tmpsOf vs i t c = .ok x h →
    ∃ t', c t' = .ok x h ∧ ∀ j, ev t' (.t j) = if i ≤ j ∧ j < i + vs.length then vs.getD (j - i) .un else ev t (.t j)
  | [], i, t, c, e => ⟨t, e, fun j => by rw [if_neg (by simp only [List.length_nil]; omega)]⟩
  | v :: vs, i, t, c, e => by
    simp only [tmpsOf, Tr.setK_eq] at e
    obtain ⟨t', e', hh⟩ := tmpsOf_inv e
    refine ⟨t', e', fun j => ?_⟩
    rw [hh j, ev_set]
    simp only [List.length_cons]
    by_cases h1 : j = i
    · subst h1; rw [if_neg (by omega), if_pos rfl, if_pos (by omega)]; simp
    · by_cases h2 : i + 1 ≤ j ∧ j < i + 1 + vs.length
      · rw [if_pos h2, if_pos (by omega)]
        rw [show j - i = (j - (i + 1)) + 1 by omega]; simp
      · rw [if_neg h2, if_neg h1, if_neg (by omega)]

theorem ev_e (i : Nat) : ev .e (.t i) = .un := by cases i <;> rfl

theorem entered {args : List AV} {cargs : Array Value} (h : RL Θ G args cargs.toList) {n : Nat} (hn : args.length ≤ n) {t' : Tr AV}
    (ht : ∀ j, ev t' (.t j) = if 0 ≤ j ∧ j < 0 + args.length then args.getD (j - 0) .un else ev .e (.t j)) :
    RT Θ G n t' (cargs ++ Array.replicate (n - cargs.size) undef) := by
  have hl : args.length = cargs.size := by simpa using h.1
  refine ⟨by simp; omega, fun i => ?_⟩
  rw [ht, ev_e]
  by_cases hi : i < args.length
  · rw [if_pos (by omega)]
    have h1 : args[i]? = some args[i] := by simp [hi]
    obtain ⟨y, hy, hv⟩ := h.get h1
    have : (cargs ++ Array.replicate (n - cargs.size) undef).getD i undef = y := by
      rw [Array.getD_eq_getD_getElem?, Array.getElem?_append_left (by omega)]
      rw [Array.getElem?_toList] at hy
      rw [hy]; rfl
    rw [this]
    simpa [hi] using hv
  · rw [if_neg (by omega)]
    have : (cargs ++ Array.replicate (n - cargs.size) undef).getD i undef = undef := by
      rw [Array.getD_eq_getD_getElem?, Array.getElem?_append_right (by omega), Array.getElem?_replicate]
      split <;> rfl
    rw [this]; exact RV.un

/-! ### What is handed back -/

def resOne (tmps : Array Value) : ResultVar → Sem Value
  | .tmp t => pure (tmps.getD t undef)
  | .cell a t => do loadVar t (← asAddr (tmps.getD a undef))

theorem results_eq (fn : Func) (tmps : Array Value) : results fn tmps = (do
  let vs ← fn.results.mapM (resOne tmps)
  pure (if h : vs.size = 1 then vs[0] else .tuple vs)) := rfl

theorem resOf_sound {h : AH} {w : World} (r : RH P Θ G h w) {n : Nat} {t : Tr AV} {tmps : Array Value} (ht : RT Θ G n t tmps) {rv : ResultVar} {ar : ARes} (hr : cRes P rv = some ar) {v : AV} (hv : resOf t h ar = some v) :
    ∃ cv, RV Θ G v cv ∧ (resOne tmps rv).run P w = .ok cv w := by
  cases rv with
  | tmp i =>
    cases hr
    cases hv
    exact ⟨_, ht.2 i, rfl⟩
  | cell i ty =>
    simp only [cRes] at hr
    obtain ⟨agg, h1, hr⟩ := Option.bind_eq_some_iff.1 hr
    obtain ⟨n, h2, hr⟩ := Option.bind_eq_some_iff.1 hr
    cases hr
    have hp := ht.2 i
    simp only [resOf] at hv
    split at hv
    · rename_i id off e
      rw [e] at hp
      obtain ⟨L, hL, hp⟩ : ∃ L, G id = some L ∧ tmps.getD i undef = .pointer (some (L.at off)) := by
        generalize tmps.getD i undef = q at hp
        cases hp with | p _ hL => exact ⟨_, hL, rfl⟩
      cases agg with
      | true =>
        simp only at hv
        split at hv
        · rename_i l hl
          cases hv
          obtain ⟨vs, r1, r2, _, r4⟩ := r.load hl hL
          refine ⟨.agg vs.toArray, RL.ag_iff.2 (by simpa using r1), ?_⟩
          simp [resOne, hp, asAddr, loadVar, run_agg h1, run_size h2, r4]
        · cases hv
      | false =>
        simp only at hv
        split at hv
        · rename_i hl
          cases hv
          obtain ⟨vs, r1, r2, r3, _⟩ := r.load hl hL
          obtain ⟨c, rfl, hc⟩ := r1.one
          have := r3 0 c rfl
          rw [Nat.add_zero] at this
          exact ⟨c, hc, by simp [resOne, hp, asAddr, loadVar, run_agg h1, this]⟩
        · cases hv
    · cases hv

theorem ress_sound {h : AH} {w : World} (r : RH P Θ G h w) {n : Nat} {t : Tr AV} {tmps : Array Value} (ht : RT Θ G n t tmps) : ∀ {rs : List ResultVar} {ars : List ARes} {vs : List AV}, rs.mapM (cRes P) = some ars → ress t h ars = some vs →
    ∃ cvs, RL Θ G vs cvs ∧ (rs.mapM (resOne tmps)).run P w = .ok cvs w
  | [], ars, vs, h1, h2 => by
    simp at h1; subst h1
    simp [ress] at h2; subst h2
    exact ⟨[], .nil, rfl⟩
  | rv :: rs, ars, vs, h1, h2 => by
    rw [List.mapM_cons] at h1
    obtain ⟨ar, e1, h1⟩ := Option.bind_eq_some_iff.1 h1
    obtain ⟨ars', e2, h1⟩ := Option.bind_eq_some_iff.1 h1
    cases h1
    simp only [ress] at h2
    split at h2
    · rename_i v l e3 e4
      cases h2
      obtain ⟨cv, q1, q2⟩ := resOf_sound r ht e1 e3
      obtain ⟨cvs, q3, q4⟩ := ress_sound r ht e2 e4
      refine ⟨cv :: cvs, RL.cons q1 q3, ?_⟩
      rw [List.mapM_cons]
      simp only [Sem.run_bind, Sem.run_pure, q2, q4, Result.andThen_ok]
    · cases h2

theorem results_sound {h : AH} {w : World} (r : RH P Θ G h w) {n : Nat} {t : Tr AV} {tmps : Array Value} (ht : RT Θ G n t tmps) {fn : Func} {ars : List ARes} {vs : List AV} (h1 : fn.results.toList.mapM (cRes P) = some ars) (h2 : ress t h ars = some vs) :
    ∃ cv, RV Θ G (match vs with | [v] => v | l => .tp l) cv ∧ (results fn tmps).run P w = .ok cv w := by
  obtain ⟨cvs, q1, q2⟩ := ress_sound r ht h1 h2
  have hr : (results fn tmps).run P w = .ok (if h : cvs.toArray.size = 1 then cvs.toArray[0] else .tuple cvs.toArray) w := by
    rw [results_eq]
    rw [Array.mapM_eq_mapM_toList]
    simp only [Sem.run_bind, map_eq_pure_bind, Sem.run_pure, q2, Result.andThen_ok]
  rw [hr]
  match vs, cvs, q1 with
  | [], [], _ => exact ⟨.tuple #[], RV.un, rfl⟩
  | [v], [c], q1 => exact ⟨c, q1.2 0 v c rfl rfl, rfl⟩
  | a :: b :: l, c :: d :: m, q1 =>
    refine ⟨_, RL.tp_iff.2 (show RL Θ G (a :: b :: l) (c :: d :: m).toArray.toList from q1), ?_⟩
    rw [dif_neg (by simp)]

/-! ### The end of an activation -/

theorem run_takeDeferred {w : World} {blk : Nat} (h : w.heap[blk]? = some (.deferred (some []))) : (Instr.takeDeferred blk).run P w = .ok [] (wput w blk (.deferred none)) := by
  have hg := run_getObj (P := P) h (fun _ _ _ => by simp)
  have hs := run_setObj (P := P) (ob' := .deferred none) h (fun _ _ _ => by simp)
  simp [Instr.takeDeferred, hg, hs]

theorem step_take {fr : Frame} {cs : List Frame} {w : World} {L : Loc} {ds : List Deferred} (hm : fr.mode = .returning) (hd : fr.defers = mark L :: ds) (h : w.heap[L.blk]? = some (.deferred (some []))) :
    step P (lone fr cs w) = .next (lone { fr with defers := ds } cs (wput w L.blk (.deferred none))) :=
  step_lone_go (by simp [stepG, unwind, hm, hd, mark, run_takeDeferred (P := P) h])

theorem sim_untake {v : AV} {h' : AH} : ∀ {d : List Nat} {h : AH} {c : AH → Res AV}, untake d h c = .ok v h' → ∃ h1, c h1 = .ok v h' ∧
    ∀ {G : Gm} {w : World} {Ls : List Loc}, RH P Θ G h w → d.map G = Ls.map some → ∃ w1, Next P Θ G h w G h1 w1 ∧
      ∀ (fr : Frame) (cs : List Frame), fr.mode = .returning → fr.defers = Ls.map mark → Steps P (lone fr cs w) (lone { fr with defers := [] } cs w1)
  | [], h, c, e => ⟨h, e, fun {G w Ls} r hd => by
      have : Ls = [] := by simpa using hd.symm
      subst this
      exact ⟨w, .refl r, fun fr cs _ h2 => by
        have : ({ fr with defers := [] } : Frame) = fr := by cases fr; simp at h2; simp [h2]
        rw [this]; exact .refl _ _⟩⟩
  | i :: d, h, c, e => by
    simp only [untake] at e
    split at e
    · rename_i hg
      rw [hset_eq] at e
      obtain ⟨h1, e1, hh⟩ := sim_untake e
      refine ⟨h1, e1, fun {G w Ls} r hd => ?_⟩
      cases Ls with
      | nil => simp at hd
      | cons L Ls =>
        simp only [List.map_cons, List.cons.injEq] at hd
        have hx : w.heap[L.blk]? = some (.deferred (some [])) := r.objOf hg rfl hd.1
        have n1 : Next P Θ G h w G _ _ := Next.put r (o' := .dfr true) (ob := .deferred none) hg rfl hd.1 rfl
        obtain ⟨w1, n2, hs⟩ := hh n1.rh hd.2
        refine ⟨w1, n1.trans n2, fun fr cs hm hds => ?_⟩
        refine .head (step_take hm hds hx) ?_
        exact hs { fr with defers := Ls.map mark } cs hm rfl
    · cases e

end Go.Proofs.YtmlfcopllfdjfaaGreat.Am
