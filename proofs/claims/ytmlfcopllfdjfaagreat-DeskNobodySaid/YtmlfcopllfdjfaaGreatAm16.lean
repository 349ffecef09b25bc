/- An abstract machine for the program's code, and that it is sound: part Am16. -/
import Derived.Test.YtmlfcopllfdjfaaGreatAm15
namespace Go.Proofs.YtmlfcopllfdjfaaGreat.Am
variable {P : Program} {Θ : Th} {G : Gm}

section
variable {h h' : AH} {w : World} {nx : Nx} {ρ : Rf → AV} {ρc : Operand → Value} {o : Oper}

theorem call_sound (hΘ : Thin Θ) {c : Call} {ao : AOp} (ho : o.op = .call c) (hc : cCall P c = some ao) (hx : xop ρ ao h = .ok nx h') (hρ : RRef Θ G ρ ρc) (hρ0 : ∀ v, ρ (.c v) = v) (hρf : ∀ f, ρc (.func f) = .func (.func f) #[] #[]) (r : RH P Θ G h w) :
    OpOK P Θ G h w nx h' ((execOp ρc o).run P w) := by
  unfold cCall at hc
  obtain ⟨args, ha, hc⟩ := Option.bind_eq_some_iff.1 hc
  split at hc
  · rename_i f hcal
    obtain ⟨fn, hfn, hc⟩ := Option.bind_eq_some_iff.1 hc
    split at hc
    · split at hc
      · cases hc
      · cases hc; exact op_call ho hcal ha hx hρ hρ0
    · rename_i hb
      have hb : fn.body = none := by simpa using hb
      split at hc
      · cases hc
      · rename_i hn
        have hn : Extern.findNext fn = none := by simpa using hn
        split at hc
        · rename_i hnm
          have hnm : fn.name = "maps.clone" := by simpa using hnm
          split at hc
          · cases hc; exact op_mcl ho hcal hfn hb hn hnm ha hx hρ (hρf f) r
          · cases hc
        · split at hc
          · rename_i hnm
            have hnm : fn.name = "internal/bytealg.IndexByteString" := by simpa using hnm
            split at hc
            · cases hc; exact op_ibs ho hcal hfn hb hn hnm ha hx hρ (hρf f) r
            · cases hc
          · cases hc
  · rename_i f _ hcal
    obtain ⟨f', hf', hc⟩ := Option.bind_eq_some_iff.1 hc
    cases hc
    exact op_cald ho hcal hf' ha hx hρ
  · cases hc
  · rename_i b hcal
    split at hc
    · split at hc
      · rename_i hu; cases hc; exact op_len0 ho hcal hu ha hx hρ r
      · rename_i hu; cases hc; exact op_len1 ho hcal hu ha hx hρ r
      · rename_i hu; cases hc; exact op_len2 ho hcal hu ha hx hρ r
      · rename_i hu; cases hc; exact op_lenc ho hcal hu ha hx r
      · cases hc
    · split at hc
      · rename_i hu; cases hc; exact op_cap ho hcal hu ha hx hρ r
      · cases hc
    · split at hc
      · rename_i hu hu1
        obtain ⟨z, hz, hc⟩ := Option.bind_eq_some_iff.1 hc
        obtain ⟨b, hb, hc⟩ := Option.bind_eq_some_iff.1 hc
        cases hc; exact op_appz hΘ ho hcal hu hu1 hz hb ha hx hρ r
      · rename_i hu hu1
        obtain ⟨z, hz, hc⟩ := Option.bind_eq_some_iff.1 hc
        obtain ⟨b, hb, hc⟩ := Option.bind_eq_some_iff.1 hc
        cases hc; exact op_app hΘ ho hcal hu hu1 (by simp) hz hb ha hx hρ r
      · rename_i hu hu1
        obtain ⟨z, hz, hc⟩ := Option.bind_eq_some_iff.1 hc
        obtain ⟨b, hb, hc⟩ := Option.bind_eq_some_iff.1 hc
        cases hc; exact op_app hΘ ho hcal hu hu1 (by simp) hz hb ha hx hρ r
      · cases hc
    · split at hc
      · rename_i hu; cases hc; exact op_del ho hcal hu ha hx hρ r
      · cases hc
    · split at hc
      · rename_i hu; cases hc; exact op_clr1 ho hcal hu ha hx hρ r
      · rename_i hu
        obtain ⟨z, hz, hc⟩ := Option.bind_eq_some_iff.1 hc
        cases hc; exact op_clr2 hΘ ho hcal hu hz ha hx hρ r
      · cases hc
    · cases hc; exact op_mnx (mx := false) ho hcal ha hx hρ r
    · cases hc; exact op_mnx (mx := true) ho hcal ha hx hρ r
    · split at hc
      · rename_i hu
        split at hc
        · obtain ⟨z, hz, hc⟩ := Option.bind_eq_some_iff.1 hc
          cases hc; exact op_cpy hΘ ho hcal hu hz ha hx hρ r
        · obtain ⟨z, hz, hc⟩ := Option.bind_eq_some_iff.1 hc
          cases hc; exact op_cpy hΘ ho hcal hu hz ha hx hρ r
        · cases hc
      · cases hc
    · cases hc

theorem oref_none {x : Option Operand} (h : oref x = some none) : x = none := by
  cases x with
  | none => rfl
  | some x => simp only [oref] at h; cases hx : cRef x <;> simp [hx] at h

theorem oref_isSome {x : Option Operand} {y : Option Rf} (h : oref x = some y) : x.isSome = y.isSome := by
  cases x with
  | none => cases h; rfl
  | some x =>
    simp only [oref] at h
    cases hx : cRef x with
    | none => simp [hx] at h
    | some z => simp [hx] at h; subst h; rfl

theorem xop_sound (hΘ : Thin Θ) (hx : xop ρ (cOp P o.op) h = .ok nx h') (hρ : RRef Θ G ρ ρc) (hρ0 : ∀ v, ρ (.c v) = v) (hρf : ∀ f, ρc (.func f) = .func (.func f) #[] #[]) (r : RH P Θ G h w) :
    OpOK P Θ G h w nx h' ((execOp ρc o).run P w) := by
  unfold cOp at hx
  cases hc : cOp? P o.op with
  | none => rw [hc] at hx; cases hx
  | some ao =>
    rw [hc] at hx
    simp only [Option.getD_some] at hx
    unfold cOp? at hc
    have B : ∀ {α β : Type} {x : Option α} {f : α → Option β} {b : β}, (x >>= f) = some b → ∃ a, x = some a ∧ f a = some b := fun h => Option.bind_eq_some_iff.1 h
    split at hc <;> rename_i ho
    · obtain ⟨y, h1, hc⟩ := B hc; cases hc; exact op_mv (.inl ho) h1 hx hρ r
    · obtain ⟨y, h1, hc⟩ := B hc; cases hc; exact op_mv (.inr ho) h1 hx hρ r
    · obtain ⟨y, h1, hc⟩ := B hc; obtain ⟨z, h2, hc⟩ := B hc; obtain ⟨z, h3, hc⟩ := B hc; cases hc; exact op_pick ho h1 h2 h3 hx hρ r
    · obtain ⟨y, h1, hc⟩ := B hc; cases hc; exact op_alloc hΘ ho h1 hx r
    · obtain ⟨y, h1, hc⟩ := B hc; obtain ⟨z, h2, hc⟩ := B hc; cases hc; exact op_box hΘ ho h2 hx hρ r
    · obtain ⟨z, h1, hc⟩ := B hc
      split at hc
      · rename_i fs hu
        obtain ⟨pl, h2, hc⟩ := B hc; obtain ⟨q, h3, hc⟩ := B hc; cases hc
        exact op_build hΘ ho h1 (.inl ⟨_, _, hu, h2, h3⟩) hx hρ r
      · rename_i fs hu
        obtain ⟨pl, h2, hc⟩ := B hc; obtain ⟨q, h3, hc⟩ := B hc; cases hc
        exact op_build hΘ ho h1 (.inr ⟨_, _, _, hu, h2, h3⟩) hx hρ r
      · cases hc
    · split at hc
      · rename_i hu
        obtain ⟨z, h1, hc⟩ := B hc
        split at hc
        · cases hc
        · rename_i h2
          obtain ⟨q, h3, hc⟩ := B hc; cases hc
          exact op_bsl hΘ ho hu h1 h2 h3 hx hρ r
      · cases hc
    · obtain ⟨y, h1, hc⟩ := B hc; obtain ⟨z, h2, hc⟩ := B hc; obtain ⟨u, h3, hc⟩ := B hc; cases hc; exact op_ld ho h1 h2 h3 hx hρ r
    · obtain ⟨y, h1, hc⟩ := B hc; obtain ⟨z, h2, hc⟩ := B hc; obtain ⟨u, h3, hc⟩ := B hc; cases hc; exact op_st hΘ ho h1 h2 h3 hx hρ r
    · obtain ⟨y, h1, hc⟩ := B hc; cases hc; exact op_nck ho h1 hx hρ r
    · obtain ⟨y, h1, hc⟩ := B hc; obtain ⟨z, h2, hc⟩ := B hc; cases hc; exact op_bin ho h1 h2 hx hρ r
    · obtain ⟨y, h1, hc⟩ := B hc; cases hc; exact op_un ho h1 hx hρ r
    · obtain ⟨y, h1, hc⟩ := B hc
      split at hc
      · rename_i u1 u2; cases hc; exact op_cvi ho u1 u2 h1 hx hρ r
      · rename_i u1 u2; cases hc; exact op_cvis ho u1 u2 h1 hx hρ r
      · rename_i u1 u2; cases hc; exact op_cvid ho u1 u2 h1 hx hρ r
      · rename_i u1 u2
        split at hc
        · rename_i u3; cases hc; exact op_cvsb ho u1 u2 u3 h1 hx hρ r
        · cases hc
      · rename_i u1 u2
        split at hc
        · rename_i u3; cases hc; exact op_cvbs ho u1 u2 u3 h1 hx hρ r
        · cases hc
      · cases hc
    · split at hc
      · cases hc
      · rename_i u1 u2
        obtain ⟨y, h1, hc⟩ := B hc; cases hc
        exact op_mki ho u2 (fun ms e => u1 ms e) h1 hx hρ r
      · cases hc
    · obtain ⟨y, h1, hc⟩ := B hc; obtain ⟨z, h2, hc⟩ := B hc; cases hc; exact op_mkf ho h1 h2 hx hρ r
    · cases hc; exact op_mkm ho hx r
    · split at hc
      · rename_i hu
        obtain ⟨z, h1, hc⟩ := B hc; obtain ⟨b, h2, hc⟩ := B hc; obtain ⟨l, h3, hc⟩ := B hc; obtain ⟨c, h4, hc⟩ := B hc; cases hc
        exact op_mks hΘ ho hu h1 h2 h3 h4 hx hρ r
      · cases hc
    · obtain ⟨x, h1, hc⟩ := B hc; obtain ⟨lo, h2, hc⟩ := B hc; obtain ⟨hi, h3, hc⟩ := B hc; obtain ⟨mx, h4, hc⟩ := B hc
      split at hc
      · rename_i hu
        cases hc
        have := oref_none h4
        subst this
        exact op_slS ho hu h1 h2 h3 hx hρ r
      · rename_i hu
        split at hc
        · cases hc
        · rename_i hm
          obtain ⟨s, h5, hc⟩ := B hc; cases hc
          refine op_slL ho hu h5 h1 h2 h3 h4 (fun e => ?_) hx hρ r
          rw [oref_isSome h4] at e
          rw [oref_isSome h3]
          simp only [e, Bool.true_and] at hm
          exact Option.isSome_iff_ne_none.2 (by simpa using hm)
      · rename_i hu
        obtain ⟨s, h5, hc⟩ := B hc; cases hc
        have := oref_none h4
        subst this
        exact op_slA ho hu h5 h1 h2 h3 hx hρ r
      · cases hc
    · split at hc
      · rename_i hu
        obtain ⟨f, h1, hc⟩ := B hc; obtain ⟨n, h2, hc⟩ := B hc
        split at hc
        · cases hc
        · rename_i hn
          obtain ⟨y, h3, hc⟩ := B hc; cases hc
          obtain ⟨n, rfl⟩ := Nat.exists_eq_succ_of_ne_zero hn
          exact op_fa ho hu h1 h2 h3 hx hρ r
      · cases hc
    · split at hc
      · rename_i hu
        obtain ⟨f, h1, hc⟩ := B hc; obtain ⟨n, h2, hc⟩ := B hc; obtain ⟨g, h3, hc⟩ := B hc; obtain ⟨y, h4, hc⟩ := B hc; cases hc
        exact op_fld ho hu h1 h2 h3 h4 hx hρ r
      · cases hc
    · split at hc
      · rename_i hu
        obtain ⟨n, h1, hc⟩ := B hc; obtain ⟨y, h2, hc⟩ := B hc; obtain ⟨z, h3, hc⟩ := B hc; cases hc
        exact op_iaA ho hu h1 h2 h3 hx hρ r
      · rename_i hu
        obtain ⟨n, h1, hc⟩ := B hc; obtain ⟨y, h2, hc⟩ := B hc; obtain ⟨z, h3, hc⟩ := B hc; cases hc
        exact op_iaL ho hu h1 h2 h3 hx hρ r
      · cases hc
    · split at hc
      · rename_i hu
        obtain ⟨n, h1, hc⟩ := B hc; obtain ⟨g, h1', hc⟩ := B hc; obtain ⟨y, h2, hc⟩ := B hc; obtain ⟨z, h3, hc⟩ := B hc; cases hc
        exact op_ixA ho hu h1 h1' h2 h3 hx hρ r
      · rename_i hu
        obtain ⟨y, h2, hc⟩ := B hc; obtain ⟨z, h3, hc⟩ := B hc; cases hc
        exact op_ixS ho hu h2 h3 hx hρ r
      · cases hc
    · split at hc
      · rename_i hu
        obtain ⟨z, h1, hc⟩ := B hc; obtain ⟨x, h2, hc⟩ := B hc; obtain ⟨i, h3, hc⟩ := B hc; cases hc
        exact op_lk ho hu h1 h2 h3 hx hρ r
      · cases hc
    · split at hc
      · rename_i hu
        obtain ⟨z, h1, hc⟩ := B hc; obtain ⟨x, h2, hc⟩ := B hc; obtain ⟨i, h3, hc⟩ := B hc; cases hc
        exact op_mu ho hu h1 h2 h3 hx hρ r
      · cases hc
    · split at hc
      · rename_i hu
        obtain ⟨y, h1, hc⟩ := B hc; cases hc
        exact op_rng ho hu true (.inl ⟨rfl, rfl⟩) h1 hx hρ r
      · rename_i hu
        obtain ⟨y, h1, hc⟩ := B hc; cases hc
        exact op_rng ho hu false (.inr ⟨rfl, _, _, rfl⟩) h1 hx hρ r
      · cases hc
    · obtain ⟨y, h1, hc⟩ := B hc; cases hc; exact op_nxt ho h1 hx hρ r
    · obtain ⟨y, h1, hc⟩ := B hc; cases hc; exact op_ent ho h1 hx hρ r
    · split at hc
      · cases hc
      · rename_i u1 u2
        obtain ⟨z, h1, hc⟩ := B hc; obtain ⟨y, h2, hc⟩ := B hc; cases hc
        exact op_tas ho u2 (fun ms e => u1 ms e) h1 h2 hx hρ r
      · cases hc
    · obtain ⟨y, h1, hc⟩ := B hc; cases hc; exact op_xt ho h1 hx hρ r
    · exact call_sound hΘ ho hc hx hρ hρ0 hρf r
    · cases hc

end
end Go.Proofs.YtmlfcopllfdjfaaGreat.Am
