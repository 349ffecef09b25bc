/- An abstract machine for the program's code, and that it is sound: part Am27. -/
import Derived.Test.YtmlfcopllfdjfaaGreatAm26
namespace Go.Proofs.YtmlfcopllfdjfaaGreat.Am
variable {P : Program} {Θ : Th} {G : Gm}

section
variable {C : AC → Fr → AH → Res (AJ × Fr)} {env : Env}
variable {ops : Array Oper} {n id fl : Nat} {l : List AOper} {anc : List Nat} {plan : List (Bool × Nat)} {t0 T : Tr AV} {hs : Nat → AH}

theorem Run.go (hΘ : Thin Θ) (hC : SimC P Θ C) (henv : EnvOK P Θ env) (hanc : ancOk anc (ops.toList.map bAfter) 0 = true) (R : Run P ops env C n id fl l anc plan t0 T hs) {G0 : Gm} {h0 : AH} (h0id : h0.nx = id) {w0 : World} (b : Frame) (kk : List Item) (cs : List Frame) :
    ∀ (π S : List Nat) {w : World} {G : Gm} {tS : Tr AV} {a : Act} {k : Nat} {early : Bool}, Valid ops π S → Closed anc S → InvW P Θ l plan n id fl t0 T hs G0 h0 w0 S tS G w a k early → (early = true → ∀ f, (spineOf l plan)[f]? = some fl → k < f) →
    ∃ G' w' a', Next P Θ G0 h0 w0 G' (hs (spineOf l plan).length) w' ∧ RT Θ G' n T a'.tmps ∧ a'.defers = a.defers ∧
      Steps P (lone (b.atR a (.inRegion ops π :: kk)) cs w) (lone (b.atR a' (.inRegion ops [] :: kk)) cs w')
  | [], S, w, G, tS, a, k, early, hv, hc, I, hst => by
    have hall : ∀ j i, (spineOf l plan)[j]? = some i → i ∈ S := fun j i hj => by
      obtain ⟨h2, p1, p2, hp, _⟩ := at_spine hj
      obtain ⟨o, ho, _⟩ := R.ent p1 true i p2 hp
      refine hv i ?_
      rcases Nat.lt_or_ge i l.length with h | h
      · rw [← R.len]; exact h
      · rw [List.getElem?_eq_none h] at ho; cases ho
    have hk : k = (spineOf l plan).length := by
      rcases Nat.lt_or_ge k (spineOf l plan).length with h | h
      · exfalso
        have hu : (spineOf l plan)[k]? = some (spineOf l plan)[k] := by simp [h]
        rcases (I.sp k _ hu).1 (hall k _ hu) with h | ⟨he, hf⟩
        · exact Nat.lt_irrefl _ h
        · rw [hf] at hu
          exact Nat.lt_irrefl _ (hst he k hu)
      · exact Nat.le_antisymm I.kM h
    subst hk
    refine ⟨G, w, a, I.next, ⟨I.rt.1, fun x => ?_⟩, rfl, .refl _ _⟩
    have : ev T (.t x) = ev tS (.t x) := by
      by_cases h : LaysS l S x
      · exact ((I.tree x).1 h).symm
      · rw [(I.tree x).2 h, R.out x]
        rintro ⟨j, o, hj, hl, hd⟩
        refine h ⟨j, o, hv j ?_, hl, hd⟩
        rcases Nat.lt_or_ge j l.length with h | h
        · rw [← R.len]; exact h
        · rw [List.getElem?_eq_none h] at hl; cases hl
    rw [this]; exact I.rt.2 x
  | i :: π, S, w, G, tS, a, k, early, hv, hc, I, hst => by
    obtain ⟨ha, hc'⟩ := valid_anc hanc hv hc
    obtain ⟨hi, hiS, _, hv'⟩ := hv
    obtain ⟨tS', G1, w1, a1, k1, e1, I1, hd1, hs1⟩ := R.step hΘ hC henv h0id I hst hi hiS ha hc b π kk cs
    obtain ⟨k2, e2, I2, hst2⟩ := I1.norm R
    obtain ⟨G2, w2, a2, n2, ht2, hd2, hs2⟩ := Run.go hΘ hC henv hanc R h0id b kk cs π (i :: S) hv' hc' I2 hst2
    exact ⟨G2, w2, a2, n2, ht2, hd2.trans hd1, hs1.trans hs2⟩

theorem floaty_cls {o : AOp} (h : floaty o = true) : cls o = 2 := by cases o <;> first | rfl | (cases h; done)

theorem simDraw (hΘ : Thin Θ) (hC : SimC P Θ C) (henv : EnvOK P Θ env) (hmix : P.follows .mixedOrders = true) : SimDraw P Θ C env := by
  intro ops l anc fl plan hl hok n t t' h h' e q G w a r ht b k cs
  simp only [planOk, Bool.and_eq_true] at hok
  obtain ⟨⟨⟨⟨hanc, hdst⟩, hent⟩, hfl⟩, hsp, hrd⟩ := hok
  obtain ⟨hall, hents⟩ := entriesOk_inv hent
  obtain ⟨_, hdd⟩ := dstsOk_inv hdst
  have hlen : l.length = ops.size := by rw [hl]; simp
  have hat : ∀ i, i < ops.size → ops[i]? = some (ops.getD i default) ∧ l[i]? = some (cOper P ops (ops.getD i default)) := fun i hi => by
    refine ⟨by simp [hi], ?_⟩
    rw [hl]; simp [hi]
  have hflo : ∀ o, l[fl]? = some o → floaty o.o = true := fun o ho => by rw [ho] at hfl; exact hfl
  have hnz : ∀ j : Nat, (0 : Nat).testBit j = false := fun j => by simp
  have hents' : ∀ p1 b i p2, plan = p1 ++ (b, i) :: p2 → ∃ o, l[i]? = some o ∧
      (∀ x ∈ o.looks, ∀ j oj, l[j]? = some oj → oj.d = some x → isAnc anc j i = true ∨ (isAnc anc i j = true ∧ (true, j) ∉ p1)) ∧
      (b = true → (true, i) ∉ p1 ∧ ∀ j, isAnc anc j i = true → (true, j) ∈ p1) ∧
      (b = false → clsAt l i = 1 ∧ (true, i) ∈ p1) := by
    intro p1 b i p2 hp
    obtain ⟨o, ho, h1, h2, h3⟩ := hents p1 b i p2 hp
    refine ⟨o, ho, fun x hx j oj hj hd => (h1 x hx j oj hj hd).imp id fun h => ⟨h.1, h.2.2⟩, fun hb => ⟨(h2 hb).2.1, fun j hj => ?_⟩, fun hb => ⟨(h3 hb).1, ?_⟩⟩
    · rcases (h2 hb).2.2 j hj with h | h
      · rw [hnz] at h; cases h
      · exact h
    · rcases (h3 hb).2 with h | h
      · rw [hnz] at h; cases h
      · exact h
  obtain ⟨hout, hs, hs0, hsT, hfact⟩ := plan_run e (fun b i hm => by
      obtain ⟨p1, p2, hp⟩ := List.append_of_mem hm
      obtain ⟨o, ho, _, _, h3⟩ := hents' p1 b i p2 hp
      refine ⟨o, ho, fun hif _ => ?_, fun hb => ?_⟩
      · have := floaty_cls (hflo o (hif ▸ ho)); omega
      · have := (h3 hb).1
        simp only [clsAt, ho] at this
        omega) (apart_of hdd fun p1 i p2 hp => by
      obtain ⟨_, _, _, h2, _⟩ := hents' p1 true i p2 hp
      exact (h2 rfl).1)
  have R : Run P ops env C n h.nx fl l anc plan t t' hs := by
    refine ⟨hlen, hat, hdd, fun i hi => ?_, hents', hfact, hout, hflo, hsp, fun i hi h1 => ?_, by rw [hs0]⟩
    · rcases hall i (by rw [hlen]; exact hi) with h | h
      · rw [hnz] at h; cases h
      · exact h
    · simp only [readsOk, List.all_eq_true, List.mem_range] at hrd
      have := hrd i (by rw [hlen]; exact hi)
      rw [h1] at this
      simpa using this
  have hv : Valid ops (Region.schedule (P.follows .mixedOrders) ops q) [] := by
    rw [hmix]
    exact linearise_valid (anc_inv hanc).1 q
  have hres : Next P Θ G h w G (hs 0) w := by
    rw [hs0]
    exact ⟨.refl G, ⟨r.obj, r.inj, fun i L hL => Nat.lt_succ_of_lt (r.bound i L hL), fun i hi => r.fresh i (Nat.le_of_succ_le hi), r.fix, r.high⟩, .refl w _, fun _ h => .inl h, fun _ h => .inl h, Nat.le_succ _, fun _ _ => rfl⟩
  have I : InvW P Θ l plan n h.nx fl t t' hs G h w [] t G w a 0 false := by
    refine ⟨Nat.zero_le _, fun j i _ => ?_, fun h => (by cases h), fun _ _ => r.none_nx, hres, by rw [hs0]; exact Nat.lt_succ_self _, ht, fun x => ⟨fun ⟨_, _, h, _⟩ => (by cases h), fun _ => rfl⟩⟩
    constructor
    · intro h; cases h
    · rintro (h | ⟨h, _⟩)
      · omega
      · cases h
  obtain ⟨G', w', a', n1, ht', hd', hst⟩ := R.go hΘ hC henv hanc rfl b k cs _ [] hv (fun i hi => by cases hi) I (fun h => by cases h)
  rw [spine_len, hsT] at n1
  exact ⟨G', w', a', n1, ht', hd', hst⟩

end

/-! ### The whole machine -/

variable {env : Env}

theorem sim_eval (hΘ : Thin Θ) (henv : EnvOK P Θ env) (hmix : P.follows .mixedOrders = true) : ∀ n, SimC P Θ (evalC env n)
  | 0 => fun c fr h j fr' h' e => by cases e
  | n + 1 => sim_step hΘ (sim_eval hΘ henv hmix n) henv (simDraw hΘ (sim_eval hΘ henv hmix n) henv hmix)

/-- What the evaluator says of a call holds of the program. -/
theorem calls_of_evalF (hΘ : Thin Θ) (henv : EnvOK P Θ env) (hmix : P.follows .mixedOrders = true) {n f : Nat} {args : List AV} {h h' : AH} {v : AV} (e : evalF env n f args h = .ok v h')
    {G : Gm} {w : World} {cargs : Array Value} (r : RH P Θ G h w) (ha : RL Θ G args cargs.toList) :
    Calls P f cargs w fun e w' => ∃ G' v', e = .returned v' ∧ RV Θ G' v v' ∧ Next P Θ G h w G' h' w' := by
  intro cs
  obtain ⟨G', w', v', n1, hv, _, fr, hs, hfn, hl⟩ := sim_call (sim_eval hΘ henv hmix n) henv e cs r ha
  exact ⟨.returned v', w', fr, ⟨G', v', rfl, hv, n1⟩, hs, hfn, hl⟩

end Go.Proofs.YtmlfcopllfdjfaaGreat.Am
