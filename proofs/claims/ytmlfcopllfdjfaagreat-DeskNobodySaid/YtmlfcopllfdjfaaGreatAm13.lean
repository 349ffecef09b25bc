/- An abstract machine for the program's code, and that it is sound: part Am13. -/
import Derived.Test.YtmlfcopllfdjfaaGreatAm12
namespace Go.Proofs.YtmlfcopllfdjfaaGreat.Am
variable {P : Program} {Θ : Th} {G : Gm}

theorem REs.nil : REs Θ G [] [] := ⟨rfl, fun i e c h => by simp at h⟩
theorem REs.cons {e : AV × AV × Nat} {c : MapEntry} {es : List (AV × AV × Nat)} {cs : List MapEntry} (h : REntry Θ G e c) (t : REs Θ G es cs) : REs Θ G (e :: es) (c :: cs) := by
  refine ⟨by simp [t.1], fun i u v hu hv => ?_⟩
  cases i with
  | zero => simp at hu hv; subst hu; subst hv; exact h
  | succ i => simp at hu hv; exact t.2 i u v hu hv

theorem REs.set {k v : AV} {k' v' : Value} (hk : RV Θ G k k') (hv : RV Θ G v v') : ∀ {es : List (AV × AV × Nat)} {cs : List MapEntry} (i : Nat), REs Θ G es cs →
    REs Θ G (esSet i k v es) (cs.modify i fun e => { e with key := k', val := v' })
  | [], cs, i, h => by rw [h.nil_inv]; cases i <;> exact REs.nil
  | (a, b, n) :: es, cs, i, h => by
    obtain ⟨c, cs', rfl, hc, h'⟩ := h.cons_inv
    cases i with
    | zero => exact REs.cons ⟨hk, hv, hc.born⟩ h'
    | succ i => exact REs.cons hc (REs.set hk hv i h')

theorem REs.del : ∀ {es : List (AV × AV × Nat)} {cs : List MapEntry} (i : Nat), REs Θ G es cs → REs Θ G (esDel i es) (cs.eraseIdx i)
  | [], cs, i, h => by rw [h.nil_inv]; cases i <;> exact REs.nil
  | e :: es, cs, i, h => by
    obtain ⟨c, cs', rfl, hc, h'⟩ := h.cons_inv
    cases i with
    | zero => exact h'
    | succ i => exact REs.cons hc (REs.del i h')

theorem REs.snoc {e : AV × AV × Nat} {c : MapEntry} (he : REntry Θ G e c) : ∀ {es : List (AV × AV × Nat)} {cs : List MapEntry}, REs Θ G es cs → REs Θ G (es ++ [e]) (cs ++ [c])
  | [], cs, h => by rw [h.nil_inv]; exact REs.cons he REs.nil
  | a :: es, cs, h => by
    obtain ⟨c', cs', rfl, hc, h'⟩ := h.cons_inv
    exact REs.cons hc (REs.snoc he h')

theorem esKey_get : ∀ {es : List (AV × AV × Nat)} {i : Nat} {k : AV}, esKey i es = some k → ∃ e, es[i]? = some e ∧ e.1 = k
  | [], i, k, h => by simp [esKey] at h
  | (a, b, n) :: es, i, k, h => by
    cases i with
    | zero => simp only [esKey] at h; cases h; exact ⟨_, rfl, rfl⟩
    | succ i => simp only [esKey] at h; obtain ⟨e, h1, h2⟩ := esKey_get h; exact ⟨e, by simpa using h1, h2⟩

mutual
theorem veq_eq : ∀ (a b : AV), veq a b = true → a = b
  | .b x, b, h => by cases b <;> simp only [veq] at h <;> first | (cases h; done) | (simp at h; rw [h])
  | .i k n, b, h => by
    cases b <;> simp only [veq, kindEq_eq] at h <;> first | (cases h; done) | skip
    simp at h; rw [h.1, h.2]
  | .s l, b, h => by
    cases b <;> simp only [veq, seq_eq] at h <;> first | (cases h; done) | skip
    simp at h; rw [h]
  | .p i o, b, h => by
    cases b <;> simp only [veq] at h <;> first | (cases h; done) | skip
    simp at h; rw [h.1, h.2]
  | .np, b, h => by cases b <;> simp only [veq] at h <;> first | (cases h; done) | rfl
  | .sl i o l c, b, h => by
    cases b <;> simp only [veq] at h <;> first | (cases h; done) | skip
    simp at h; rw [h.1.1.1, h.1.1.2, h.1.2, h.2]
  | .zs, b, h => by cases b <;> simp only [veq] at h <;> first | (cases h; done) | rfl
  | .nsl, b, h => by cases b <;> simp only [veq] at h <;> first | (cases h; done) | rfl
  | .m i, b, h => by
    cases b <;> simp only [veq] at h <;> first | (cases h; done) | skip
    simp at h; rw [h]
  | .nm, b, h => by cases b <;> simp only [veq] at h <;> first | (cases h; done) | rfl
  | .f fn x y, b, h => by
    cases b <;> simp only [veq] at h <;> first | (cases h; done) | skip
    simp only [Bool.and_eq_true, decide_eq_true_eq] at h
    rw [h.1.1, veqs_eq _ _ h.1.2, veqs_eq _ _ h.2]
  | .nf, b, h => by cases b <;> simp only [veq] at h <;> first | (cases h; done) | rfl
  | .ifc t v, b, h => by
    cases b <;> simp only [veq] at h <;> first | (cases h; done) | skip
    simp only [Bool.and_eq_true] at h
    rw [Nat.eq_of_beq_eq_true h.1, veq_eq _ _ h.2]
  | .ni, b, h => by cases b <;> simp only [veq] at h <;> first | (cases h; done) | rfl
  | .ag l, b, h => by
    cases b <;> simp only [veq] at h <;> first | (cases h; done) | skip
    rw [veqs_eq _ _ h]
  | .tp l, b, h => by
    cases b <;> simp only [veq] at h <;> first | (cases h; done) | skip
    rw [veqs_eq _ _ h]
  | .q i, b, h => by
    cases b <;> simp only [veq] at h <;> first | (cases h; done) | skip
    simp at h; rw [h]
theorem veqs_eq : ∀ (a b : List AV), veqs a b = true → a = b
  | [], b, h => by cases b <;> simp only [veqs] at h <;> first | (cases h; done) | rfl
  | x :: a, b, h => by
    cases b with
    | nil => simp only [veqs] at h; cases h
    | cons y b =>
      simp only [veqs, Bool.and_eq_true] at h
      rw [veq_eq _ _ h.1, veqs_eq _ _ h.2]
end

section
variable {h h' : AH} {w : World} {nx : Nx} {ρ : Rf → AV} {ρc : Operand → Value} {o : Oper}

theorem execOp_u {s : Sem Unit} {w' : World} {x : Sem Go.Next} (e : x = (do s; pure .skip)) (hr : s.run P w = .ok () w') : x.run P w = .ok .skip w' := by
  rw [e, Sem.run_bind, hr]; rfl

theorem op_mu {t kt et : TypeId} {m k v : Operand} {m' k' v' : Rf} (ho : o.op = .mapUpdate t m k v) (hu : P.underlying t = some (.map kt et)) (hm' : cRef m = some m') (hk' : cRef k = some k') (hv' : cRef v = some v')
    (hx : xop ρ (.mu (cEqOf P kt) m' k' v') h = .ok nx h') (hρ : RRef Θ G ρ ρc) (r : RH P Θ G h w) : OpOK P Θ G h w nx h' ((execOp ρc o).run P w) := by
  have hmv := hρ _ _ hm'
  have hk := hρ _ _ hk'
  have hv := hρ _ _ hv'
  have hex : execOp ρc o = (do Instr.mapUpdate t (ρc m) (ρc k) (ρc v); pure .skip : Sem Go.Next) := by simp only [execOp, ho]
  simp only [xop] at hx
  split at hx
  · rename_i id e hkk
    obtain ⟨k1, k2⟩ := kck_inv hkk
    have hck : ∀ b w, (Instr.checkKey b 10000 kt (ρc k)).run P w = .ok () w := fun b w => checkKey_sound 5 kt _ k2 _ k1 _ hk b 10000 w (by omega)
    split at hx
    · rename_i es clock hg
      obtain ⟨L, hL, hp⟩ := map_inv e hmv
      obtain ⟨L', cs, hL', hmo, hr⟩ := r.map hg
      rw [hL] at hL'; cases hL'
      have hgo : (getObj L.blk).run P w = .ok (.map cs clock) w := run_getObj (P := P) hmo (fun _ _ _ => by simp)
      split at hx
      · rename_i j v0 hki
        obtain ⟨r', f1, f2⟩ := findKey_sound (P := P) k2 (by omega) hk hki hr w
        obtain ⟨v1, rfl, c, hc⟩ : ∃ v1, r' = some (j, v1) ∧ ∃ c, cs.toList[j]? = some c := by
          cases r' with
          | none => exact f2.elim
          | some p => obtain ⟨a, b⟩ := p; obtain ⟨rfl, c, _, h2, _⟩ := f2; exact ⟨b, rfl, c, by simpa using h2⟩
        split at hx
        · rename_i ko hko
          split at hx
          · rename_i hveq hfl
            rw [listK_eq, hset_eq] at hx
            obtain ⟨rfl, rfl⟩ := ok_inj hx
            have hke := veq_eq _ _ hveq
            subst hke
            obtain ⟨en, he1, he2⟩ := esKey_get hko
            have hold : RV Θ G (ρ k') c.key := by rw [← he2]; exact (hr.2 j en c he1 hc).key
            obtain ⟨hkk', hsb⟩ := flat_det hfl hold hk
            have hc' : cs[j]? = some c := by simpa using hc
            have hks : (Instr.keyThatStays c.key (ρc k)).run P w = .ok (ρc k) w := by
              unfold Instr.keyThatStays
              rw [hkk'] at hsb ⊢
              rw [if_pos (hsb 9999)]
              rfl
            refine .skip (Next.put r hg rfl hL (o' := .map _ clock) (ob := .map (cs.modify j fun e => { e with key := ρc k, val := ρc v }) clock) ⟨_, rfl, ?_⟩) (execOp_u hex ?_)
            · rw [Array.toList_modify]; exact hr.set hk hv j
            · rw [hp]
              unfold Instr.mapUpdate
              simp only [Sem.run_bind, run_underlying hu, Result.andThen_ok, hgo, hck, f1, hc', Option.map_some, Option.getD_some, hks, run_setObj (P := P) hmo (fun _ _ _ => by simp)]
          · cases hx
        · cases hx
      · rename_i hki
        obtain ⟨r', f1, f2⟩ := findKey_sound (P := P) k2 (by omega) hk hki hr w
        have hr'n : r' = none := by
          cases r' with
          | none => rfl
          | some p => exact f2.elim
        subst hr'n
        rw [listK_eq, natK_eq, hset_eq] at hx
        obtain ⟨rfl, rfl⟩ := ok_inj hx
        refine .skip (Next.put r hg rfl hL (o' := .map _ (clock + 1)) (ob := .map (cs.push { key := ρc k, val := ρc v, born := clock }) (clock + 1)) ⟨_, rfl, ?_⟩) (execOp_u hex ?_)
        · rw [Array.toList_push]; exact hr.snoc ⟨hk, hv, rfl⟩
        · rw [hp]
          unfold Instr.mapUpdate
          simp only [Sem.run_bind, run_underlying hu, Result.andThen_ok, hgo, hck, f1, run_setObj (P := P) hmo (fun _ _ _ => by simp)]
      · cases hx
    · cases hx
  · cases hx

theorem op_del {c : Call} {m' k' : Rf} {kt et : TypeId} (ho : o.op = .call c) (hb : c.callee = .builtin .delete) (hu : at? P c.argTypes 0 = some (.map kt et)) (hc : cRefs c.args.toList = some [m', k'])
    (hx : xop ρ (.del (cEqOf P kt) m' k') h = .ok nx h') (hρ : RRef Θ G ρ ρc) (r : RH P Θ G h w) : OpOK P Θ G h w nx h' ((execOp ρc o).run P w) := by
  obtain ⟨m, k, ha, hm', hk'⟩ := cRefs2 hc
  obtain ⟨t, ht, hut⟩ := at_inv hu
  have hmv := hρ _ _ hm'
  have hk := hρ _ _ hk'
  have hex : execOp ρc o = (do pure (.value (← Builtin.delete_ c.argTypes o.type #[ρc m, ρc k])) : Sem Go.Next) := by rw [execOp_builtin ho hb, args2 ha]; rfl
  simp only [xop] at hx
  split at hx
  · rename_i id e hkk
    obtain ⟨k1, k2⟩ := kck_inv hkk
    have hck : ∀ b w, (Instr.checkKey b 10000 kt (ρc k)).run P w = .ok () w := fun b w => checkKey_sound 5 kt _ k2 _ k1 _ hk b 10000 w (by omega)
    split at hx
    · rename_i es clock hg
      obtain ⟨L, hL, hp⟩ := map_inv e hmv
      obtain ⟨L', cs, hL', hmo, hr⟩ := r.map hg
      rw [hL] at hL'; cases hL'
      have hgo : (getObj L.blk).run P w = .ok (.map cs clock) w := run_getObj (P := P) hmo (fun _ _ _ => by simp)
      have hso : ∀ ob, (setObj L.blk ob).run P w = .ok () (wput w L.blk ob) := fun ob => run_setObj (P := P) hmo (fun _ _ _ => by simp)
      split at hx
      · rename_i j v0 hki
        obtain ⟨r', f1, f2⟩ := findKey_sound (P := P) k2 (by omega) hk hki hr w
        obtain ⟨v1, rfl⟩ : ∃ v1, r' = some (j, v1) := by
          cases r' with
          | none => exact f2.elim
          | some p => obtain ⟨a, b⟩ := p; obtain ⟨rfl, _⟩ := f2; exact ⟨b, rfl⟩
        rw [listK_eq, hset_eq] at hx
        obtain ⟨rfl, rfl⟩ := ok_inj hx
        refine .un (Next.put r hg rfl hL (o' := .map _ clock) (ob := .map (cs.eraseIdxIfInBounds j) clock) ⟨_, rfl, ?_⟩) (execOp_v hex ?_)
        · have : (cs.eraseIdxIfInBounds j).toList = cs.toList.eraseIdx j := by simp
          rw [this]; exact hr.del j
        · rw [hp]
          unfold Builtin.delete_
          simp only [ht, List.getElem?_toArray, List.getElem?_cons_zero, List.getElem?_cons_succ, Sem.run_bind, run_underlying hut, Result.andThen_ok, hgo, hck, f1, hso, Sem.run_pure]
      · rename_i hki
        obtain ⟨r', f1, f2⟩ := findKey_sound (P := P) k2 (by omega) hk hki hr w
        have hr'n : r' = none := by
          cases r' with
          | none => rfl
          | some p => exact f2.elim
        subst hr'n
        obtain ⟨rfl, rfl⟩ := ok_inj hx
        refine .un (.refl r) (execOp_v hex ?_)
        rw [hp]
        unfold Builtin.delete_
        simp only [ht, List.getElem?_toArray, List.getElem?_cons_zero, List.getElem?_cons_succ, Sem.run_bind, run_underlying hut, Result.andThen_ok, hgo, hck, f1, hso, Sem.run_pure]
        rw [wput_self hmo]
      · cases hx
    · cases hx
  · cases hx

end
end Go.Proofs.YtmlfcopllfdjfaaGreat.Am
