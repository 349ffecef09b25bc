/- An abstract machine for the program's code, and that it is sound: part Am11. -/
import Derived.Test.YtmlfcopllfdjfaaGreatAm10
namespace Go.Proofs.YtmlfcopllfdjfaaGreat.Am
variable {P : Program} {Θ : Th} {G : Gm}

section
variable {h h' : AH} {w : World} {nx : Nx} {ρ : Rf → AV} {ρc : Operand → Value} {o : Oper}

theorem OpOK.un {G' : Gm} {w' : World} (n : Next P Θ G h w G' h' w') {res : Result Go.Next} (e : res = .ok (.value (.tuple #[])) w') : OpOK P Θ G h w (.v .un) h' res :=
  ⟨_, w', G', e, n, .inl ⟨_, rfl, .un⟩⟩

theorem op_clr1 {c : Call} {y : Rf} {a b : TypeId} {z : List AV} (ho : o.op = .call c) (hb : c.callee = .builtin .clear) (hu : at? P c.argTypes 0 = some (.map a b)) (hc : cRefs c.args.toList = some [y]) (hx : xop ρ (.clr true z y) h = .ok nx h') (hρ : RRef Θ G ρ ρc) (r : RH P Θ G h w) :
    OpOK P Θ G h w nx h' ((execOp ρc o).run P w) := by
  obtain ⟨x, ha, hcx⟩ := cRefs1 hc
  obtain ⟨t, ht, hut⟩ := at_inv hu
  have hv := hρ _ _ hcx
  have hex : execOp ρc o = (do pure (.value (← Builtin.clear_ c.argTypes o.type #[ρc x])) : Sem Go.Next) := by rw [execOp_builtin ho hb, args1 ha]; rfl
  simp only [xop] at hx
  split at hx <;> first
    | (cases hx; done)
    | (rename_i h0 _; cases h0; done)
    | skip
  · rename_i _ e
    obtain ⟨rfl, rfl⟩ := ok_inj hx
    refine .un (.refl r) (execOp_v hex ?_)
    rw [nm_inv e hv]
    simp [Builtin.clear_, ht, run_underlying hut]
  · rename_i id _ e
    split at hx
    · rename_i es clock hg
      rw [hset_eq] at hx
      obtain ⟨rfl, rfl⟩ := ok_inj hx
      obtain ⟨L, hL, hp⟩ := map_inv e hv
      obtain ⟨L', cs, hL', hm, he⟩ := r.map hg
      rw [hL] at hL'; cases hL'
      refine .un (Next.put r hg rfl hL (o' := .map [] clock) (ob := .map #[] clock) ⟨#[], rfl, rfl, fun i e c he => by simp at he⟩) (execOp_v hex ?_)
      rw [hp]
      simp [Builtin.clear_, ht, run_underlying hut, run_getObj (P := P) hm (fun _ _ _ => by simp), run_setObj (P := P) hm (fun _ _ _ => by simp)]
    · cases hx

theorem op_clr2 (hΘ : Thin Θ) {c : Call} {y : Rf} {e : TypeId} {z : List AV} (ho : o.op = .call c) (hb : c.callee = .builtin .clear) (hu : at? P c.argTypes 0 = some (.slice e)) (h1 : cZeroOf P e = some z) (hc : cRefs c.args.toList = some [y]) (hx : xop ρ (.clr false z y) h = .ok nx h') (hρ : RRef Θ G ρ ρc) (r : RH P Θ G h w) :
    OpOK P Θ G h w nx h' ((execOp ρc o).run P w) := by
  obtain ⟨x, ha, hcx⟩ := cRefs1 hc
  obtain ⟨t, ht, hut⟩ := at_inv hu
  obtain ⟨z1, z2, z3⟩ := cZeroOf_inv h1
  obtain ⟨zv, hz, hzr⟩ := cZeroCells_sound (Θ := Θ) (G := G) hΘ z1
  have hv := hρ _ _ hcx
  have hex : execOp ρc o = (do pure (.value (← Builtin.clear_ c.argTypes o.type #[ρc x])) : Sem Go.Next) := by rw [execOp_builtin ho hb, args1 ha]; rfl
  simp only [xop] at hx
  split at hx <;> first
    | (cases hx; done)
    | (rename_i h0 _; cases h0; done)
    | skip
  · rename_i _ e
    obtain ⟨rfl, rfl⟩ := ok_inj hx
    refine .un (.refl r) (execOp_v hex ?_)
    rw [e] at hv
    generalize hp : ρc x = q at hv
    cases hv
    simp [Builtin.clear_, ht, run_underlying hut]
  · rename_i _ e
    obtain ⟨rfl, rfl⟩ := ok_inj hx
    refine .un (.refl r) (execOp_v hex ?_)
    rw [e] at hv
    generalize hp : ρc x = q at hv
    cases hv
    simp [Builtin.clear_, ht, run_underlying hut]
  · rename_i id off len cc _ e
    obtain ⟨L, cap, hL, hp⟩ := sl_inv e hv
    have hnew : RL Θ G (repl len z) (Builtin.zeroCells zv.cells len).toList := hz.repl len (len * zv.cells.size) rfl
    obtain ⟨h1', w1, hcc, _, hst, hn⟩ := r.store hΘ hx hL hnew
    obtain ⟨rfl, rfl⟩ := ok_inj hcc
    refine .un hn (execOp_v hex ?_)
    rw [hp]
    by_cases h0 : len = 0
    · subst h0
      have hw : w1 = w := by
        have : (Builtin.zeroCells zv.cells 0).toList = [] := by
          have := zeroCells_size zv.cells 0
          rw [Nat.zero_mul] at this
          rw [Array.eq_empty_of_size_eq_zero this]
        rw [this] at hst
        simp [storeCells] at hst
        exact hst.symm
      subst hw
      simp [Builtin.clear_, ht, run_underlying hut]
    · unfold Builtin.clear_
      simp only [ht, List.getElem?_toArray, List.getElem?_cons_zero, Sem.run_bind, run_underlying hut, Result.andThen_ok]
      cases len with
      | zero => exact absurd rfl h0
      | succ n => simp only [hzr, Result.andThen_ok, hst, Sem.run_pure]

theorem op_cpy (hΘ : Thin Θ) {c : Call} {x' y' : Rf} {e : TypeId} {esz : Nat} (ho : o.op = .call c) (hb : c.callee = .builtin .copy) (hu : at? P c.argTypes 0 = some (.slice e)) (h1 : cSize1 P e = some esz) (hc : cRefs c.args.toList = some [x', y'])
    (hx : xop ρ (.cpy esz x' y') h = .ok nx h') (hρ : RRef Θ G ρ ρc) (r : RH P Θ G h w) : OpOK P Θ G h w nx h' ((execOp ρc o).run P w) := by
  obtain ⟨x, y, ha, hcx, hcy⟩ := cRefs2 hc
  obtain ⟨t, ht, hut⟩ := at_inv hu
  obtain ⟨s1, s2⟩ := cSize1_inv h1
  have hv := hρ _ _ hcx
  have hex : execOp ρc o = (do pure (.value (← Builtin.copy_ c.argTypes o.type #[ρc x, ρc y])) : Sem Go.Next) := by rw [execOp_builtin ho hb, args2 ha]; rfl
  simp only [xop] at hx
  split at hx
  · rename_i p ec e1
    obtain ⟨k, l⟩ := p
    obtain ⟨rfl, rfl⟩ := ok_inj hx
    rw [ec] at hv
    generalize hp : ρc x = q at hv hex
    cases hv
    obtain ⟨f1, f2, f3⟩ := cellsOfSl_sound r e1 (hρ _ _ hcy)
    obtain ⟨vs, v1, v2⟩ := f3 0 (Nat.zero_le _)
    refine .val (v := .int .i64 0) r (.i _ _) (execOp_v hex ?_)
    simp [Builtin.copy_, ht, run_underlying hut, f1, run_size s1, v2, goInt]
  · rename_i id off len cc k l e1 e2
    rw [natK_eq] at hx
    obtain ⟨L, cap, hL, hp⟩ := sl_inv e1 hv
    obtain ⟨f1, f2, f3⟩ := cellsOfSl_sound r e2 (hρ _ _ hcy)
    obtain ⟨vs, v1, v2⟩ := f3 (Nat.min k len) (Nat.min_le_left _ _)
    obtain ⟨h1', w1, hcc, _, hst, hn⟩ := r.store hΘ hx hL v1
    obtain ⟨rfl, rfl⟩ := ok_inj hcc
    refine ⟨_, w1, G, execOp_v hex ?_, hn, .inl ⟨.int .i64 (Nat.min k len : Nat), rfl, .i _ _⟩⟩
    rw [hp]
    unfold Builtin.copy_
    simp only [ht, List.getElem?_toArray, List.getElem?_cons_zero, List.getElem?_cons_succ, Sem.run_bind, run_underlying hut, Result.andThen_ok, f1, run_size s1, v2, hst, Sem.run_pure, goInt]
  · cases hx

theorem op_tas {x : Operand} {y : Rf} {xt t : TypeId} {d : TypeDesc} {z : AV} {ok : Bool} (ho : o.op = .typeAssert x xt t ok) (hu : P.underlying t = some d) (hd : ∀ ms, d ≠ .interface ms) (hz : cZero P t = some z) (hc : cRef x = some y)
    (hx : xop ρ (.tas t z ok y) h = .ok nx h') (hρ : RRef Θ G ρ ρc) (r : RH P Θ G h w) : OpOK P Θ G h w nx h' ((execOp ρc o).run P w) := by
  obtain ⟨_, zv, _, _, hzv, hzr⟩ := cZero_sound (Θ := Θ) (G := G) hz
  have hv := hρ _ _ hc
  have hex : execOp ρc o = (do pure (.value (← Instr.typeAssert (ρc x) xt t ok)) : Sem Go.Next) := by simp only [execOp, ho]
  simp only [xop] at hx
  split at hx
  · rename_i u v e
    rw [e] at hv
    obtain ⟨v', hp, hv'⟩ : ∃ v', ρc x = .iface u v' ∧ RV Θ G v v' := by
      generalize ρc x = q at hv
      cases hv with | ifc _ h => exact ⟨_, rfl, h⟩
    rw [hp] at hex
    have key : (Instr.typeAssert (.iface u v') xt t ok).run P w = (if u = t then .ok (if ok then .tuple #[v', .bool true] else v') w else (if ok then .ok (.tuple #[zv, .bool false]) w else (Instr.typeAssert (.iface u v') xt t ok).run P w)) := by
      by_cases hut : u = t
      · subst hut
        rw [if_pos rfl]
        unfold Instr.typeAssert
        simp only [Sem.run_bind, run_underlying hu, Result.andThen_ok]
        cases d <;> first
          | exact absurd rfl (hd _)
          | simp
      · rw [if_neg hut]
        cases ok
        · rfl
        · unfold Instr.typeAssert
          simp only [Sem.run_bind, run_underlying hu, Result.andThen_ok]
          cases d <;> first
            | exact absurd rfl (hd _)
            | simp [hut, hzr]
    split at hx
    · rename_i hb
      obtain ⟨rfl, rfl⟩ := ok_inj hx
      have hut : u = t := Nat.eq_of_beq_eq_true hb
      rw [if_pos hut] at key
      exact .val r (RL.tp_iff.2 (RL.cons hv' (RL.cons (.b true) RL.nil))) (execOp_v hex key)
    · rename_i hb
      obtain ⟨rfl, rfl⟩ := ok_inj hx
      have hut : u = t := Nat.eq_of_beq_eq_true hb
      rw [if_pos hut] at key
      exact .val r hv' (execOp_v hex key)
    · rename_i hb
      obtain ⟨rfl, rfl⟩ := ok_inj hx
      have hut : u ≠ t := fun e => by subst e; simp at hb
      rw [if_neg hut] at key
      exact .val r (RL.tp_iff.2 (RL.cons hzv (RL.cons (.b false) RL.nil))) (execOp_v hex key)
    · cases hx
  · cases hx

end
end Go.Proofs.YtmlfcopllfdjfaaGreat.Am
