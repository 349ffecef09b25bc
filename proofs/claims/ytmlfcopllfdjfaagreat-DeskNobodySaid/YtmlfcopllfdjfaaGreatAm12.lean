/- An abstract machine for the program's code, and that it is sound: part Am12. -/
import Derived.Test.YtmlfcopllfdjfaaGreatAm11
namespace Go.Proofs.YtmlfcopllfdjfaaGreat.Am
variable {P : Program} {Θ : Th} {G : Gm}

/-! ### Keys -/

theorem checkFields (b : Bool) (d : Nat) : ∀ (fs : List Field) (cs : Array Value) (w : World), (∀ f ∈ fs, f.name ≠ "_" → ∃ v, (∀ w, (part f.type cs f.offset).run P w = .ok v w) ∧ ∀ w, (Instr.checkKey b d f.type v).run P w = .ok () w) →
    (forIn fs PUnit.unit fun f _ => (if f.name ≠ "_" then do { Instr.checkKey b d f.type (← part f.type cs f.offset); pure (ForInStep.yield PUnit.unit) } else do { pure PUnit.unit; pure (ForInStep.yield PUnit.unit) } : Sem (ForInStep PUnit))).run P w = .ok PUnit.unit w
  | [], cs, w, _ => by simp
  | f :: fs, cs, w, h => by
    rw [List.forIn_cons]
    by_cases hn : f.name ≠ "_"
    · obtain ⟨v, h1, h2⟩ := h f (by simp) hn
      simp only [hn, ne_eq, not_false_eq_true, if_true, Sem.run_bind, h1, h2, Result.andThen_ok, Sem.run_pure]
      exact checkFields b d fs cs w fun f hf => h f (by simp [hf])
    · simp only [hn, if_false, Sem.run_bind, Result.andThen_ok, Sem.run_pure]
      exact checkFields b d fs cs w fun f hf => h f (by simp [hf])

mutual
theorem checkKey_sound : ∀ (n : Nat) (t : TypeId) (e : EqT), cEq P n t = some e → ∀ (x : AV), aeq e x x = some true → ∀ (vx : Value), RV Θ G x vx → ∀ (b : Bool) (d : Nat) (w : World), n ≤ d → (Instr.checkKey b d t vx).run P w = .ok () w
  | 0, _, _, h => by cases h
  | n + 1, t, e, h => by
    intro x ha vx hx b d w hd
    obtain ⟨d, rfl⟩ : ∃ m, d = m + 1 := ⟨d - 1, by omega⟩
    obtain ⟨td, hu, hc⟩ := cEq_inv h
    rcases hc with ⟨k0, rfl, rfl⟩ | ⟨rfl, rfl⟩ | ⟨rfl, rfl⟩ | ⟨el, m, rfl, rfl, hs⟩ | ⟨el, rfl, rfl⟩ | ⟨a, b, rfl, rfl⟩ | ⟨a, b, c, rfl, rfl⟩ | ⟨fs, rfl⟩
    all_goals try (simp [Instr.checkKey, run_underlying hu]; done)
    obtain ⟨_, l, rfl, hm⟩ := cEq_struct hu h
    obtain ⟨xs, ys, rfl, e2, ha⟩ := aeq_ag ha
    cases e2
    obtain ⟨vxs, rfl⟩ : ∃ a, vx = .agg a := by cases hx; exact ⟨_, rfl⟩
    have hfs := checkKeys_sound n fs.toList l hm xs ha vxs (RL.ag_iff.1 hx) b d (by omega)
    have := checkFields (P := P) b d fs.toList vxs w hfs
    simp only [Instr.checkKey, Sem.run_bind, run_underlying hu, Result.andThen_ok]
    rw [← Array.forIn_toList]
    refine (congrArg (fun r => Result.andThen r fun _ w' => Sem.run P (pure ()) w') (show _ = Result.ok PUnit.unit w from ?_)).trans rfl
    exact this
theorem checkKeys_sound : ∀ (n : Nat) (fs : List Field) (l : List (Nat × Nat × Bool × EqT)), fs.mapM (fun (f : Field) => if f.name = "_" then none else do
        pure (f.offset, (← cSize P f.type), (← cAgg P f.type), (← cEq P n f.type))) = some l → ∀ (x : List AV), aeqs l x x = some true → ∀ (vx : Array Value), RL Θ G x vx.toList → ∀ (b : Bool) (d : Nat), n ≤ d →
    ∀ f ∈ fs, f.name ≠ "_" → ∃ v, (∀ w, (part f.type vx f.offset).run P w = .ok v w) ∧ ∀ w, (Instr.checkKey b d f.type v).run P w = .ok () w
  | n, [], l, hm => by
    intro x ha vx hx b d hd f hf
    simp at hf
  | n, f :: fs, l, hm => by
    intro x ha vx hx b d hd g hg hgn
    rcases mapM_rel (R := EqF P n) (fun a b h => eqF_of h) hm with ⟨h, _⟩ | ⟨a, l', q, r', h1, h2, h3, h4⟩
    · cases h
    · cases h1
      subst h2
      obtain ⟨off, sz, agg, e⟩ := q
      obtain ⟨q1, q2, q3, q4, q5⟩ := h3
      simp only at q2 q3 q4 q5
      subst q2
      simp only [aeqs] at ha
      cases ap : apart agg f.offset sz x with
      | none => rw [ap] at ha; cases ha
      | some a =>
        rw [ap] at ha
        simp only at ha
        cases he : aeq e a a with
        | none => rw [he] at ha; cases ha
        | some q =>
          rw [he] at ha
          cases q with
          | false => cases ha
          | true =>
            simp only at ha
            rcases List.mem_cons.1 hg with rfl | hg'
            · obtain ⟨v, r1, r2⟩ := apart_sound q4 q3 ap hx
              exact ⟨v, r2, fun w => checkKey_sound n _ e q5 a he v r1 b d w hd⟩
            · exact checkKeys_sound n fs r' h4 x ha vx hx b d hd g hg' hgn
end

/-- What a look among a map's entries finds. -/
def FoundAt (Θ : Th) (G : Gm) (cs : List MapEntry) (i : Nat) : Option (Nat × AV) → Option (Nat × Value) → Prop
  | none, none => True
  | some (j, v), some (j', v') => j = j' ∧ ∃ c, i ≤ j ∧ cs[j - i]? = some c ∧ v' = c.val ∧ RV Θ G v c.val
  | _, _ => False

theorem FoundAt.succ {cs : List MapEntry} {c : MapEntry} {i : Nat} {r : Option (Nat × AV)} {r' : Option (Nat × Value)} (h : FoundAt Θ G cs (i + 1) r r') : FoundAt Θ G (c :: cs) i r r' := by
  unfold FoundAt at *
  split at h
  · trivial
  · obtain ⟨rfl, c', h1, h2, h3⟩ := h
    refine ⟨rfl, c', by omega, ?_, h3⟩
    rw [show ∀ j, i + 1 ≤ j → j - i = (j - (i + 1)) + 1 from fun j h => by omega]
    · simpa using h2
    · exact h1
  · exact h.elim

theorem REs.cons_inv {e : AV × AV × Nat} {es : List (AV × AV × Nat)} {cs : List MapEntry} (h : REs Θ G (e :: es) cs) : ∃ c cs', cs = c :: cs' ∧ REntry Θ G e c ∧ REs Θ G es cs' := by
  cases cs with
  | nil => have := h.1; simp at this
  | cons c cs =>
    refine ⟨c, cs, rfl, h.2 0 e c rfl rfl, ?_, fun i u v hu hv => h.2 (i + 1) u v (by simpa using hu) (by simpa using hv)⟩
    have := h.1; simp at this; exact this

theorem REs.nil_inv {cs : List MapEntry} (h : REs Θ G [] cs) : cs = [] := List.length_eq_zero_iff.1 h.1.symm

theorem findAsking_sound {n : Nat} {kt : TypeId} {e : EqT} (he : cEq P n kt = some e) (hn : n ≤ 10000) {k : AV} {vk : Value} (hk : RV Θ G k vk) : ∀ {es : List (AV × AV × Nat)} {i : Nat} {r : Option (Nat × AV)} {cs : List MapEntry}, keyIdx e k es i = some r → REs Θ G es cs →
    ∀ w, ∃ r', (Instr.findAsking kt vk cs i).run P w = .ok r' w ∧ FoundAt Θ G cs i r r'
  | [], i, r, cs, h, hr, w => by
    simp only [keyIdx] at h; cases h
    rw [hr.nil_inv]
    exact ⟨none, rfl, trivial⟩
  | (k', v, b) :: es, i, r, cs, h, hr, w => by
    obtain ⟨c, cs', rfl, hc, hr'⟩ := hr.cons_inv
    simp only [keyIdx] at h
    split at h
    · rename_i ha
      cases h
      have := run_equal (P := P) he hn ha hk hc.key w
      refine ⟨some (i, c.val), by simp only [Instr.findAsking, Sem.run_bind, this, Result.andThen_ok, if_true, Sem.run_pure], rfl, c, Nat.le_refl _, by simp, rfl, hc.val⟩
    · rename_i ha
      have := run_equal (P := P) he hn ha hk hc.key w
      obtain ⟨r', h1, h2⟩ := findAsking_sound he hn hk h hr' w
      exact ⟨r', by simp only [Instr.findAsking, Sem.run_bind, this, Result.andThen_ok, Bool.false_eq_true, if_false, h1], h2.succ⟩
    · cases h

theorem findNow_sound {td : TypeDesc} {e : EqT} {k : AV} {vk : Value} (hk : RV Θ G k vk) (hs : ∀ k' v' b, RV Θ G k' v' → aeq e k k' = some b → Instr.sameNow td vk v' = some b) : ∀ {es : List (AV × AV × Nat)} {i : Nat} {r : Option (Nat × AV)} {cs : List MapEntry}, keyIdx e k es i = some r → REs Θ G es cs →
    ∃ r', Instr.findNow td vk cs i = some r' ∧ FoundAt Θ G cs i r r'
  | [], i, r, cs, h, hr => by
    simp only [keyIdx] at h; cases h
    rw [hr.nil_inv]
    exact ⟨none, rfl, trivial⟩
  | (k', v, b) :: es, i, r, cs, h, hr => by
    obtain ⟨c, cs', rfl, hc, hr'⟩ := hr.cons_inv
    simp only [keyIdx] at h
    split at h
    · rename_i ha
      cases h
      exact ⟨some (i, c.val), by simp only [Instr.findNow, hs _ _ _ hc.key ha], rfl, c, Nat.le_refl _, by simp, rfl, hc.val⟩
    · rename_i ha
      obtain ⟨r', h1, h2⟩ := findNow_sound hk hs h hr'
      exact ⟨r', by simp only [Instr.findNow, hs _ _ _ hc.key ha, h1], h2.succ⟩
    · cases h

theorem findKey_sound {n : Nat} {kt : TypeId} {e : EqT} (he : cEq P (n + 1) kt = some e) (hn : n + 1 ≤ 10000) {k : AV} {vk : Value} (hk : RV Θ G k vk) {es : List (AV × AV × Nat)} {r : Option (Nat × AV)} {cs : List MapEntry} (h : keyIdx e k es 0 = some r) (hr : REs Θ G es cs) (w : World) :
    ∃ r', (Instr.findKey kt vk cs).run P w = .ok r' w ∧ FoundAt Θ G cs 0 r r' := by
  obtain ⟨td, hu, hc⟩ := cEq_inv he
  have hask := findAsking_sound he hn hk h hr w
  have hnow : (∀ k' v' b, RV Θ G k' v' → aeq e k k' = some b → Instr.sameNow td vk v' = some b) ∨ (∀ a b, Instr.sameNow td a b = none) := by
    rcases hc with ⟨k0, rfl, rfl⟩ | ⟨rfl, rfl⟩ | ⟨rfl, rfl⟩ | ⟨el, m, rfl, rfl, _⟩ | ⟨el, rfl, rfl⟩ | ⟨a, b, rfl, rfl⟩ | ⟨a, b, c, rfl, rfl⟩ | ⟨fs, rfl⟩
    · left
      intro k' v' b hv ha
      obtain ⟨kd, x, y, rfl, rfl, rfl⟩ := aeq_int ha
      cases hk; cases hv
      simp [Instr.sameNow]; rfl
    · left
      intro k' v' b hv ha
      obtain ⟨x, y, rfl, rfl, rfl⟩ := aeq_str ha
      cases hk; cases hv
      simp only [Instr.sameNow]
      rw [seq_bytes, beq_toListBytes, ByteArray.toList_eq, ByteArray.toList_eq]
    · left
      intro k' v' b hv ha
      obtain ⟨x, y, rfl, rfl, rfl⟩ := aeq_bool ha
      cases hk; cases hv
      rfl
    all_goals (right; intro a b; rfl)
  rcases hnow with hs | hs
  · obtain ⟨r', h1, h2⟩ := findNow_sound hk hs h hr
    exact ⟨r', by simp only [Instr.findKey, Sem.run_bind, run_underlying hu, Result.andThen_ok, h1, Sem.run_pure], h2⟩
  · cases cs with
    | nil =>
      obtain ⟨r', h1, h2⟩ := hask
      simp [Instr.findAsking] at h1
      subst h1
      exact ⟨none, by simp only [Instr.findKey, Sem.run_bind, run_underlying hu, Result.andThen_ok, Instr.findNow, Sem.run_pure], h2⟩
    | cons c cs =>
      obtain ⟨r', h1, h2⟩ := hask
      exact ⟨r', by simp only [Instr.findKey, Sem.run_bind, run_underlying hu, Result.andThen_ok, Instr.findNow, hs, h1], h2⟩

section
variable {h h' : AH} {w : World} {nx : Nx} {ρ : Rf → AV} {ρc : Operand → Value} {o : Oper}

theorem kck_inv {t : TypeId} {k : AV} (h : kck (cEqOf P t) k = true) : aeq (cEqOf P t) k k = some true ∧ cEq P 5 t = some (cEqOf P t) := by
  unfold kck at h
  split at h
  · rename_i ha
    refine ⟨ha, (cEqOf_inv rfl ?_).1⟩
    intro hn
    rw [hn] at ha
    cases k <;> simp [aeq] at ha
  · cases h

theorem op_lk {t kt et : TypeId} {z : AV} {ok : Bool} {x i : Operand} {x' i' : Rf} (ho : o.op = .lookup t x i ok) (hu : P.underlying t = some (.map kt et)) (hz : cZero P et = some z) (hx' : cRef x = some x') (hi' : cRef i = some i')
    (hx : xop ρ (.lk (cEqOf P kt) z ok x' i') h = .ok nx h') (hρ : RRef Θ G ρ ρc) (r : RH P Θ G h w) : OpOK P Θ G h w nx h' ((execOp ρc o).run P w) := by
  obtain ⟨_, zv, _, _, hzv, hzr⟩ := cZero_sound (Θ := Θ) (G := G) hz
  have hv := hρ _ _ hx'
  have hk := hρ _ _ hi'
  have hex : execOp ρc o = (do pure (.value (← Instr.lookup t (ρc x) (ρc i) ok)) : Sem Go.Next) := by simp only [execOp, ho]
  simp only [xop] at hx
  split at hx
  · rename_i es he hkk
    obtain ⟨k1, k2⟩ := kck_inv hkk
    have hck : ∀ b w, (Instr.checkKey b 10000 kt (ρc i)).run P w = .ok () w := fun b w => checkKey_sound 5 kt _ k2 _ k1 _ hk b 10000 w (by omega)
    have hes : ∃ cs : Array MapEntry, REs Θ G es cs.toList ∧ ((ρc x = .map none ∧ cs = #[]) ∨ ∃ b clock, ρc x = .map (some b) ∧ (getObj b).run P w = .ok (.map cs clock) w) := by
      unfold entries at he
      split at he
      · rename_i e; cases he
        exact ⟨#[], ⟨rfl, fun i e c h => by simp at h⟩, .inl ⟨nm_inv e hv, rfl⟩⟩
      · rename_i id e
        split at he
        · rename_i es' clock hg
          cases he
          obtain ⟨L, hL, hp⟩ := map_inv e hv
          obtain ⟨L', cs, hL', hm, hr⟩ := r.map hg
          rw [hL] at hL'; cases hL'
          exact ⟨cs, hr, .inr ⟨L.blk, clock, hp, run_getObj (P := P) hm (fun _ _ _ => by simp)⟩⟩
        · cases he
      · cases he
    obtain ⟨cs, hr, hf⟩ := hes
    split at hx
    · rename_i j v hki
      obtain ⟨r', f1, f2⟩ := findKey_sound (P := P) k2 (by omega) hk hki hr w
      obtain ⟨j', v', rfl, _, c, _, _, rfl, hvc⟩ : ∃ j' v', r' = some (j', v') ∧ j = j' ∧ ∃ c, 0 ≤ j ∧ cs.toList[j - 0]? = some c ∧ v' = c.val ∧ RV Θ G v c.val := by
        cases r' with
        | none => exact f2.elim
        | some p => obtain ⟨a, b⟩ := p; exact ⟨a, b, rfl, f2.1, f2.2⟩
      have key : (Instr.lookup t (ρc x) (ρc i) ok).run P w = .ok (if ok then .tuple #[c.val, .bool true] else c.val) w := by
        unfold Instr.lookup
        simp only [Sem.run_bind, run_underlying hu, Result.andThen_ok]
        rcases hf with ⟨hp, rfl⟩ | ⟨b, clock, hp, hg⟩
        · rw [hp]
          simp only [Sem.run_bind, Sem.run_pure, Result.andThen_ok, hck, f1]
        · rw [hp]
          simp only [Sem.run_bind, Sem.run_pure, Result.andThen_ok, hck, f1, hg]
      cases ok with
      | true => obtain ⟨rfl, rfl⟩ := ok_inj hx; exact .val r (RL.tp_iff.2 (RL.cons hvc (RL.cons (.b true) RL.nil))) (execOp_v hex key)
      | false => obtain ⟨rfl, rfl⟩ := ok_inj hx; exact .val r hvc (execOp_v hex key)
    · rename_i hki
      obtain ⟨r', f1, f2⟩ := findKey_sound (P := P) k2 (by omega) hk hki hr w
      have hr'n : r' = none := by
        cases r' with
        | none => rfl
        | some p => exact f2.elim
      subst hr'n
      have key : (Instr.lookup t (ρc x) (ρc i) ok).run P w = .ok (if ok then .tuple #[zv, .bool false] else zv) w := by
        unfold Instr.lookup
        simp only [Sem.run_bind, run_underlying hu, Result.andThen_ok]
        rcases hf with ⟨hp, rfl⟩ | ⟨b, clock, hp, hg⟩
        · rw [hp]
          simp only [Sem.run_bind, Sem.run_pure, Result.andThen_ok, hck, f1, hzr]
        · rw [hp]
          simp only [Sem.run_bind, Sem.run_pure, Result.andThen_ok, hck, f1, hzr, hg]
      cases ok with
      | true => obtain ⟨rfl, rfl⟩ := ok_inj hx; exact .val r (RL.tp_iff.2 (RL.cons hzv (RL.cons (.b false) RL.nil))) (execOp_v hex key)
      | false => obtain ⟨rfl, rfl⟩ := ok_inj hx; exact .val r hzv (execOp_v hex key)
    · cases hx
  · cases hx

/-! ### Storing in a map -/

theorem flat_det {x : AV} (hf : flat x = true) {a b : Value} (ha : RV Θ G x a) (hb : RV Θ G x b) : a = b ∧ ∀ n, Instr.sameBits (n + 1) a a = true := by
  have flat1_det : ∀ {x : AV}, flat1 x = true → ∀ {a b : Value}, RV Θ G x a → RV Θ G x b → a = b ∧ ∀ n, Instr.sameBits n a a = true := by
    intro x hf a b ha hb
    cases x <;> simp only [flat1] at hf <;> try (cases hf; done)
    · cases ha; cases hb; exact ⟨rfl, fun n => by cases n <;> simp [Instr.sameBits]⟩
    · cases ha; cases hb; exact ⟨rfl, fun n => by cases n <;> simp [Instr.sameBits]⟩
    · rename_i l
      have : ∀ {a : Value}, RV Θ G (.s l) a → ∃ s : ByteArray, a = .string s ∧ l = s.data.toList.map UInt8.toNat := fun h => by cases h; exact ⟨_, rfl, rfl⟩
      obtain ⟨s, rfl, e1⟩ := this ha
      obtain ⟨s', rfl, e2⟩ := this hb
      have hss : s = s' := by
        rw [e1] at e2
        have := (map_toNat_inj _ _).1 e2
        obtain ⟨⟨x⟩⟩ := s
        obtain ⟨⟨y⟩⟩ := s'
        simp at this
        rw [this]
      subst hss
      exact ⟨rfl, fun n => by
        cases n <;> (simp only [Instr.sameBits]; rw [beq_toListBytes]; simp)⟩
  cases x with
  | ag l =>
    simp only [flat] at hf
    have : ∀ {a : Value}, RV Θ G (.ag l) a → ∃ vs : Array Value, a = .agg vs ∧ RL Θ G l vs.toList := fun h => by cases h with | ag a b => exact ⟨_, rfl, RL.ag_iff.1 (.ag a b)⟩
    obtain ⟨v1, rfl, r1⟩ := this ha
    obtain ⟨v2, rfl, r2⟩ := this hb
    have key : ∀ (l : List AV), l.all flat1 = true → ∀ (v1 v2 : List Value), RL Θ G l v1 → RL Θ G l v2 → v1 = v2 ∧ ∀ n, (v1.zip v1).all (fun (x, y) => Instr.sameBits n x y) = true := by
      intro l
      induction l with
      | nil => intro _ v1 v2 h1 h2; rw [h1.nil_inv, h2.nil_inv]; exact ⟨rfl, fun n => rfl⟩
      | cons x l ih =>
        intro hall v1 v2 h1 h2
        simp only [List.all_cons, Bool.and_eq_true] at hall
        obtain ⟨a, v1', rfl, ha, h1'⟩ := h1.cons_inv
        obtain ⟨b, v2', rfl, hb, h2'⟩ := h2.cons_inv
        obtain ⟨rfl, hs⟩ := flat1_det hall.1 ha hb
        obtain ⟨rfl, hs'⟩ := ih hall.2 v1' v2' h1' h2'
        exact ⟨rfl, fun n => by simp only [List.zip_cons_cons, List.all_cons, hs n, Bool.true_and]; exact hs' n⟩
    obtain ⟨e, hs⟩ := key l hf _ _ r1 r2
    have : v1 = v2 := by rw [← Array.toArray_toList (xs := v1), e, Array.toArray_toList]
    subst this
    exact ⟨rfl, fun n => by simp only [Instr.sameBits, beq_self_eq_true, Bool.true_and]; exact hs n⟩
  | i k n => obtain ⟨e, hs⟩ := flat1_det (x := .i k n) rfl ha hb; exact ⟨e, fun n => hs _⟩
  | s l => obtain ⟨e, hs⟩ := flat1_det (x := .s l) rfl ha hb; exact ⟨e, fun n => hs _⟩
  | b v => obtain ⟨e, hs⟩ := flat1_det (x := .b v) rfl ha hb; exact ⟨e, fun n => hs _⟩
  | _ => simp [flat, flat1] at hf

end
end Go.Proofs.YtmlfcopllfdjfaaGreat.Am
