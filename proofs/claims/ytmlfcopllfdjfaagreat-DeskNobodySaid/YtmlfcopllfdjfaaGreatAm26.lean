/- An abstract machine for the program's code, and that it is sound: part Am26. -/
import Derived.Test.YtmlfcopllfdjfaaGreatAm25
namespace Go.Proofs.YtmlfcopllfdjfaaGreat.Am
variable {P : Program} {Θ : Th} {G : Gm}

section
variable {C : AC → Fr → AH → Res (AJ × Fr)} {env : Env}
variable {ops : Array Oper} {n id fl : Nat} {l : List AOper} {anc : List Nat} {plan : List (Bool × Nat)} {t0 T : Tr AV} {hs : Nat → AH}

theorem cOper_d (o : Oper) : (cOper P ops o).d = o.dst := by
  rcases cOper_cases (P := P) ops o with ⟨_, e'⟩ | ⟨_, _, _, _, _, e'⟩ | e' <;> rw [e']

/-- What an operation that is no float gives, here as along the plan. -/
theorem Run.value (R : Run P ops env C n id fl l anc plan t0 T hs) {G0 : Gm} {h0 : AH} {w0 w : World} {S : List Nat} {tS : Tr AV} {a : Act} {k : Nat} {early : Bool} (I : InvW P Θ l plan n id fl t0 T hs G0 h0 w0 S tS G w a k early)
    (hst : early = true → ∀ f, (spineOf l plan)[f]? = some fl → k < f) {i : Nat} (hi : i < ops.size) (hiS : i ∉ S) (hanc : ∀ j, isAnc anc j i = true → j ∈ S) (hc : Closed anc S) {o : AOper} (ho : l[i]? = some o)
    {p1 p2 : List (Bool × Nat)} (hp : plan = p1 ++ (true, i) :: p2) {te : Tr AV} (hte : ∀ x, (Lays l p1 x → ev te (.t x) = ev T (.t x)) ∧ (¬ Lays l p1 x → ev te (.t x) = ev t0 (.t x))) (hif : i ≠ fl)
    (hw : want env.fact te o.g = some true) {v : AV} (hdst : ∀ d, o.d = some d → d < n ∧ ev T (.t d) = v) (hx : (xopE env.fact (ev te) o.o (hs (spn l p1))).bind (doNx env C) = .ok v (hs (spn l p1 + if true && Nat.ble 2 (cls o.o) then 1 else 0))) :
    ∃ v' k1, (∀ d, o.d = some d → d < n ∧ ev T (.t d) = v') ∧ (xopE env.fact (ev tS) o.o (hs k)).bind (doNx env C) = .ok v' (hs k1) ∧ ((clsAt l i < 2 ∧ k1 = k) ∨ ((spineOf l plan)[k]? = some i ∧ k1 = k + 1)) := by
  have hcl : clsAt l i = cls o.o := by simp [clsAt, ho]
  have hsame := R.same I.tree hc hiS hanc hp ho hte
  have hxe : ∀ h, xopE env.fact (ev tS) o.o h = xopE env.fact (ev te) o.o h := xopE_ev o.o fun x hx => hsame x (looks_refs hx)
  by_cases h2 : 2 ≤ cls o.o
  · have hb : Nat.ble 2 (cls o.o) = true := by simpa using h2
    have hsp := spine_at hp (hcl ▸ h2)
    obtain ⟨_, hk, _⟩ := I.place R hst hsp hiS hanc
    have hk := hk hif
    rw [hb, hk] at hx
    rw [hk] at hsp
    exact ⟨v, k + 1, hdst, by rw [hxe]; exact hx, .inr ⟨hsp, rfl⟩⟩
  · have hb : Nat.ble 2 (cls o.o) = false := by
      cases h : Nat.ble 2 (cls o.o) with
      | false => rfl
      | true => exact absurd (by simpa using h) h2
    rw [hb] at hx
    simp only [Bool.and_false, Bool.false_eq_true, if_false, Nat.add_zero] at hx
    by_cases h0 : cls o.o = 0
    · obtain ⟨x, h1, e1, e2⟩ := bind_inv hx
      obtain ⟨rfl, v', rfl, hall⟩ := cls0E_inv h0 e1
      refine ⟨v', k, ?_, by rw [hxe, hall]; rfl, .inl ⟨by omega, rfl⟩⟩
      rw [(ok_inj e2).1]; exact hdst
    · have h1 : clsAt l i = 1 := by omega
      obtain ⟨hfr, hrd⟩ := R.reads i hi h1
      -- the stretch
      have hk : 0 + k ∈ segsOf l i plan 0 := by
        refine readOk_inv hrd k I.kM (fun s hs => by cases hs) (fun s hs => ?_) (fun s hs => ?_)
        · obtain ⟨j, hsj⟩ := List.mem_iff_getElem?.1 hs
          rw [List.getElem?_take] at hsj
          split at hsj
          · rename_i hj
            have hS := (I.sp j s hsj).2 (.inl hj)
            cases hA : isAnc anc i s with
            | false => rfl
            | true => exact absurd (hc s hS i hA) hiS
          · cases hsj
        · obtain ⟨j, hj⟩ := List.mem_iff_getElem?.1 hs
          rw [List.getElem?_drop] at hj
          cases hA : isAnc anc s i with
          | false => rfl
          | true =>
            exfalso
            have hS := hanc s hA
            rcases (I.sp _ s hj).1 hS with h | ⟨he, hsf⟩
            · omega
            · subst hsf
              have hkf := hst he _ hj
              obtain ⟨m, hm⟩ : ∃ m, k + j = m + 1 := ⟨k + j - 1, by omega⟩
              rw [hm] at hj hkf
              have hlen : m + 1 < (spineOf l plan).length := by
                rcases Nat.lt_or_ge (m + 1) (spineOf l plan).length with h | h
                · exact h
                · rw [List.getElem?_eq_none h] at hj; cases hj
              obtain ⟨u, hu⟩ : ∃ u, (spineOf l plan)[m]? = some u := ⟨(spineOf l plan)[m]'(by omega), by simp [show m < (spineOf l plan).length by omega]⟩
              have hSu := hanc u (floatRead_inv hfr m u hu hj hA)
              rcases (I.sp m u hu).1 hSu with h | ⟨_, h⟩
              · omega
              · subst h
                have := R.spine_inj hu hj
                omega
      obtain ⟨q1, b', q2, hq, hkq⟩ := segsOf_mem hk
      simp only [Nat.zero_add] at hkq
      obtain ⟨o', tq, ho', htq, hFq⟩ := R.fact q1 b' i q2 hq
      rw [ho] at ho'; cases ho'
      have hsameq := R.same I.tree hc hiS hanc hq ho htq
      have hxq : ∀ h, xopE env.fact (ev tS) o.o h = xopE env.fact (ev tq) o.o h := xopE_ev o.o fun x hx => hsameq x (looks_refs hx)
      have hwq : want env.fact tq o.g = some true := by
        rw [← want_ev o hsameq, want_ev o hsame]; exact hw
      rw [hb, ← hkq] at hFq
      simp only [Bool.and_false, Bool.false_eq_true, if_false, Nat.add_zero] at hFq
      cases b' with
      | true =>
        rcases hFq with ⟨h, _⟩ | ⟨_, v', hv', ⟨_, h⟩ | ⟨h, _⟩⟩
        · rw [hwq] at h; cases h
        · exact ⟨v', k, hv', by rw [hxq]; exact h, .inl ⟨by omega, rfl⟩⟩
        · exact absurd h hif
      | false =>
        rcases hFq with ⟨_, h | ⟨_, d, h', hd, hxx⟩⟩
        · rw [hwq] at h; cases h
        · obtain ⟨rfl, _⟩ := cls1E_inv (by omega) hxx
          obtain ⟨_, _, _, _, hin⟩ := R.ent q1 false i q2 hq
          have hL : Lays l q1 d := ⟨i, o, (hin rfl).2, ho, hd⟩
          refine ⟨ev tq (.t d), k, fun d' hd' => ?_, by rw [hxq, hxx]; rfl, .inl ⟨by omega, rfl⟩⟩
          rw [hd] at hd'; cases hd'
          exact ⟨(hdst d hd).1, ((htq d).1 hL).symm⟩


theorem Run.step (hΘ : Thin Θ) (hC : SimC P Θ C) (henv : EnvOK P Θ env) (R : Run P ops env C n id fl l anc plan t0 T hs) {G0 : Gm} {h0 : AH} (h0id : h0.nx = id) {w0 w : World} {S : List Nat} {tS : Tr AV} {a : Act} {k : Nat} {early : Bool} (I : InvW P Θ l plan n id fl t0 T hs G0 h0 w0 S tS G w a k early)
    (hst : early = true → ∀ f, (spineOf l plan)[f]? = some fl → k < f) {i : Nat} (hi : i < ops.size) (hiS : i ∉ S) (hanc : ∀ j, isAnc anc j i = true → j ∈ S) (hc : Closed anc S) (b : Frame) (rest : List Nat) (kk : List Item) (cs : List Frame) :
    ∃ tS' G' w' a' k' e', InvW P Θ l plan n id fl t0 T hs G0 h0 w0 (i :: S) tS' G' w' a' k' e' ∧ a'.defers = a.defers ∧
      Steps P (lone (b.atR a (.inRegion ops (i :: rest) :: kk)) cs w) (lone (b.atR a' (.inRegion ops rest :: kk)) cs w') := by
  obtain ⟨ho, hl⟩ := R.at_ i hi
  generalize ops.getD i default = o at ho hl
  have hd := cOper_d (P := P) (ops := ops) o
  have hcl : clsAt l i = cls (cOper P ops o).o := by simp [clsAt, hl]
  obtain ⟨p1, p2, hp⟩ := List.append_of_mem (R.all i hi)
  obtain ⟨A', te, hA', hte, hF⟩ := R.fact p1 true i p2 hp
  rw [hl] at hA'; cases hA'
  have hsame := R.same I.tree hc hiS hanc hp hl hte
  have hw := want_ev (fact := env.fact) _ hsame
  rcases hF with ⟨hwf, hhs, hdst⟩ | ⟨hwt, v, hdst, hcase⟩
  · obtain ⟨tS', ht1, ht2⟩ := put_tree (n := n) tS (cOper P ops o).d .un (fun x h => (hdst x h).1)
    have hs1 := sim_op_skip (P := P) (G := G) henv.fact ho (hw.trans hwf) (w := w) I.rt b rest kk cs
    have hAg := I.tree.cons hl (fun d h => (hdst d h).2) ht1
    rw [hd] at ht2
    by_cases hc2 : 2 ≤ cls (cOper P ops o).o
    · have hb : Nat.ble 2 (cls (cOper P ops o).o) = true := by simpa using hc2
      have hsp := spine_at hp (hcl ▸ hc2)
      obtain ⟨hkj, hne, hfe⟩ := I.place R hst hsp hiS hanc
      rw [hb] at hhs
      simp only [Bool.and_self, if_true] at hhs
      by_cases hif : i = fl
      · have he := hfe hif
        subst he
        refine ⟨tS', G, w, _, k, true, ⟨I.kM, fun j u hu => ?_, fun _ => ⟨_, hif ▸ hsp, hkj, .inl hhs⟩, fun h => (by cases h), I.next, I.lt, ht2 I.rt RV.un, hAg⟩, put_defers _ _ _, hs1⟩
        rw [List.mem_cons, I.sp j u hu]
        constructor
        · rintro (h | h | ⟨h, _⟩)
          · exact .inr ⟨rfl, h.trans hif⟩
          · exact .inl h
          · cases h
        · rintro (h | ⟨_, h⟩)
          · exact .inr (.inl h)
          · exact .inl (h.trans hif.symm)
      · have hj := hne hif
        rw [hj] at hhs hsp
        exact ⟨tS', G, w, _, k + 1, early, I.adv R hst (.inr ⟨hsp, rfl⟩) (by rw [hhs]; exact .refl I.next.rh) (ht2 I.rt RV.un) hAg, put_defers _ _ _, hs1⟩
    · exact ⟨tS', G, w, _, k, early, I.adv R hst (.inl ⟨by omega, rfl⟩) (.refl I.next.rh) (ht2 I.rt RV.un) hAg, put_defers _ _ _, hs1⟩
  · by_cases hif : i = fl
    · rcases hcase with ⟨h, _⟩ | ⟨_, h', hx, hhs⟩
      · exact absurd hif h
      · have hf := R.flt _ (hif ▸ hl)
        have hnb : (cOper P ops o).o ≠ .bad 1 := fun e => by rw [e] at hf; cases hf
        obtain ⟨hwd, hco, _⟩ := want_sound henv.fact I.rt ops o (hw.trans hwt) (fun _ => hnb)
        rw [xopE_float hf] at hx
        obtain ⟨v', ob, hv', hh', hlive, hall⟩ := float_form hf hx
        cases hv'
        have hallS : ∀ o2, xop (ev tS) (cOp P o.op) ⟨id, o2⟩ = .ok (.v v) ⟨id + 1, o2.set id ob⟩ := fun o2 => by
          rw [← hco, xop_ev _ (fun x hx => hsame x (looks_refs hx))]; exact hall o2
        obtain ⟨cob, cv, size, hrun, hsound⟩ := float_sound (P := P) hΘ (hco ▸ hf) hallS I.rt.rref w
        have hc2 : 2 ≤ cls (cOper P ops o).o := by
          revert hf; cases (cOper P ops o).o <;> intro hf <;> first | (cases hf; done) | exact Nat.le_refl _
        have hb : Nat.ble 2 (cls (cOper P ops o).o) = true := by simpa using hc2
        have hsp := spine_at hp (hcl ▸ hc2)
        obtain ⟨hkj, _, hfe⟩ := I.place R hst hsp hiS hanc
        have he := hfe hif
        subst he
        have hGid := I.no rfl fun f hf => by rw [R.spine_inj hf (hif ▸ hsp)]; exact hkj
        obtain ⟨nx1, hnl, hext⟩ := float_new I.next hGid h0id I.lt cob size
        obtain ⟨hrv, hro⟩ := hsound _ hext (if_pos rfl)
        obtain ⟨tS', ht1, ht2⟩ := put_tree (n := n) tS (cOper P ops o).d v (fun x h => (hdst x h).1)
        have hAg := I.tree.cons hl (fun d h => (hdst d h).2) ht1
        rw [hd] at ht2
        rw [hb] at hhs
        simp only [Bool.and_self, if_true] at hhs
        have hnd : ∀ c, o.op ≠ .defer c := fun c e => by rw [hco, e] at hf; cases hf
        refine ⟨tS', _, _, a.put o.dst cv, k, true, ⟨I.kM, fun j u hu => ?_, fun _ => ⟨_, hif ▸ hsp, hkj, .inr ⟨⟨w.heap.size, 0, size⟩, ob, cob, ?_, hlive, if_pos rfl, ?_, ⟨I.next.stay.size, I.next.rh.fix.size⟩, ?_, hnl, fun G' e' => (hsound G' (hext.trans e') (e' _ _ (if_pos rfl))).2⟩⟩, fun h => (by cases h), nx1, I.lt, ht2 (I.rt.ext hext) hrv, hAg⟩, put_defers _ _ _, ?_⟩
        · rw [List.mem_cons, I.sp j u hu]
          constructor
          · rintro (h | h | ⟨h, _⟩)
            · exact .inr ⟨rfl, h.trans hif⟩
            · exact .inl h
            · cases h
          · rintro (h | ⟨_, h⟩)
            · exact .inr (.inl h)
            · exact .inl (h.trans hif.symm)
        · rw [hhs, hh']
        · show (w.heap.push cob)[w.heap.size]? = _; simp
        · show w.heap.size < (w.heap.push cob).size; simp
        · have hap : Applied P (b.atR a (.inRegion ops (i :: rest) :: kk)) cs (execOp a.eval o) w (lone ((b.atR a (.inRegion ops (i :: rest) :: kk)).finish cv) cs (w.alloc cob)) := applied_value hrun
          have hfin := Frame.finish_atR b a ops i rest kk cv
          rw [ho] at hfin
          rw [hfin] at hap
          refine steps_applied ?_ hap
          rw [stepGR_op ho hwd, Oper.semAt_eq _ _ _ hnd]
    · rcases hcase with ⟨_, hx⟩ | ⟨h, _⟩
      · obtain ⟨v', k1, hv', hx', hk1⟩ := R.value I hst hi hiS hanc hc hl hp hte hif hwt hdst hx
        obtain ⟨G1, w1, cv, n1, hrv, hsteps⟩ := sim_op hΘ hC henv ho (hw.trans hwt) hx' I.next.rh I.rt b rest kk cs
        obtain ⟨tS', ht1, ht2⟩ := put_tree (n := n) tS (cOper P ops o).d v' (fun x h => (hv' x h).1)
        have hAg := I.tree.cons hl (fun d h => (hv' d h).2) ht1
        rw [hd] at ht2
        exact ⟨tS', G1, w1, _, k1, early, I.adv R hst hk1 n1 (ht2 (I.rt.ext n1.ext) hrv) hAg, put_defers _ _ _, hsteps⟩
      · exact absurd h hif

end
end Go.Proofs.YtmlfcopllfdjfaaGreat.Am
