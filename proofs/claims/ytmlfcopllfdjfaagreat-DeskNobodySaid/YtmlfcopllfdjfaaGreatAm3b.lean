/- An abstract machine for the program's code, and that it is sound: part Am3b. -/
import Derived.Test.YtmlfcopllfdjfaaGreatAm3
namespace Go.Proofs.YtmlfcopllfdjfaaGreat.Am
variable {P : Program} {Θ : Th} {G : Gm}

theorem exRV {r : AV} {v : Value} {x : Result Value} {w : World} (h : RV Θ G r v) (e : x = .ok v w) : ∃ v, x = .ok v w ∧ RV Θ G r v := ⟨v, e, h⟩

theorem run_equal {n : Nat} {t : TypeId} {e : EqT} (h : cEq P n t = some e) (hn : n ≤ 10000) {x y : AV} {r : Bool} (ha : aeq e x y = some r) {vx vy : Value} (hx : RV Θ G x vx) (hy : RV Θ G y vy) (w : World) :
    (Op.equal t vx vy).run P w = .ok r w := aeq_sound n t e h x y r ha vx vy hx hy Op.maxDepth w hn

theorem abin_scalar_int {o : BinOp} {e : EqT} {k k' : IntKind} {a b : Int} {r : AV} (h : abin o e (.i k a) (.i k' b) = some r) (t : TypeId) (x y : Operand) (w : World) :
    ∃ v, (do eqGuard o t x y (.int k a) (.int k' b); binOp o t (.int k a) (.int k' b) : Sem Value).run P w = .ok v w ∧ RV Θ G r v := by
  have hg : ∀ w, (eqGuard o t x y (.int k a) (.int k' b)).run P w = .ok () w := fun w => by cases o <;> rfl
  simp only [Sem.run_bind, hg, Result.andThen_ok]
  cases o <;> simp only [abin, ishift, iarith, vi_eq, boolK_eq, kindEq_eq, id] at h
  case shl =>
    split at h
    · cases h
    · rename_i hb
      cases h
      have hb' : ¬ b < 0 := by simpa using hb
      exact exRV (.i _ _) (by simp only [binOp, Op.shift, if_neg hb']; rfl)
  case shr =>
    split at h
    · cases h
    · rename_i hb
      cases h
      have hb' : ¬ b < 0 := by simpa using hb
      exact exRV (.i _ _) (by simp only [binOp, Op.shift, if_neg hb']; rfl)
  all_goals
    by_cases hk : k = k'
    · subst hk
      simp only [decide_true] at h
      first
        | (cases h
           first
             | exact exRV (.i _ _) (by simp only [binOp, ne_eq, eq_self, not_true_eq_false, if_false]; rfl)
             | exact exRV (.b _) (by simp only [binOp, ne_eq, eq_self, not_true_eq_false, if_false]; rfl))
        | (split at h
           · cases h
           · rename_i hb
             cases h
             have hb' : ¬ b = 0 := by simpa using hb
             exact exRV (.i _ _) (by simp only [binOp, ne_eq, eq_self, not_true_eq_false, if_false, Op.intDiv, if_neg hb']; rfl))
    · simp [hk] at h

theorem bytes_len (a : ByteArray) : a.data.toList.length = a.size := Array.length_toList
theorem bytes_app (a b : ByteArray) : (a ++ b).data.toList.map UInt8.toNat = a.data.toList.map UInt8.toNat ++ b.data.toList.map UInt8.toNat := by
  rw [← List.map_append]; simp

theorem abin_scalar_str {o : BinOp} {e : EqT} {a b : ByteArray} {r : AV} (h : abin o e (.s (a.data.toList.map UInt8.toNat)) (.s (b.data.toList.map UInt8.toNat)) = some r) (t : TypeId) (x y : Operand) (w : World) :
    ∃ v, (do eqGuard o t x y (.string a) (.string b); binOp o t (.string a) (.string b) : Sem Value).run P w = .ok v w ∧ RV Θ G r v := by
  have hg : ∀ w, (eqGuard o t x y (.string a) (.string b)).run P w = .ok () w := fun w => by cases o <;> rfl
  simp only [Sem.run_bind, hg, Result.andThen_ok]
  cases o <;> simp only [abin, sarith, boolK_eq, natsK_eq, seq_bytes, slt_bytes] at h
  case add =>
    split at h
    · rename_i hb
      cases h
      have hle := Nat.le_of_ble_eq_true hb
      rw [List.length_append, List.length_map, List.length_map] at hle
      rw [bytes_len, bytes_len] at hle
      have hs := bytes_app a b
      have hlen : ¬ ((a.size + b.size : Nat) : Int) > IntKind.i64.max := by
        have h3 : IntKind.i64.max = 9223372036854775807 := by decide
        rw [h3]; omega
      rw [← hs]
      exact exRV (.s _) (by simp only [binOp, Op.stringOp, if_neg hlen]; rfl)
    · cases h
  all_goals first
    | (cases h; done)
    | (cases h; exact exRV (.b _) (by simp only [binOp, Op.stringOp, ByteArray.toList_eq]; rfl))

theorem abin_sound {o : BinOp} {e : EqT} {x y r : AV} (h : abin o e x y = some r) {vx vy : Value} (hx : RV Θ G x vx) (hy : RV Θ G y vy) (t : TypeId)
    (he : e = eqFor P o t) (xo yo : Operand) (w : World) :
    ∃ v, (do eqGuard o t xo yo vx vy; binOp o t vx vy : Sem Value).run P w = .ok v w ∧ RV Θ G r v := by
  by_cases hi : ∃ k a k' b, x = .i k a ∧ y = .i k' b
  · obtain ⟨k, a, k', b, rfl, rfl⟩ := hi
    cases hx; cases hy
    exact abin_scalar_int h t xo yo w
  · by_cases hs : ∃ a b, x = .s a ∧ y = .s b
    · obtain ⟨a, b, rfl, rfl⟩ := hs
      cases hx; cases hy
      exact abin_scalar_str h t xo yo w
    · have hform : (o = .eql ∧ ∃ q, aeq e x y = some q ∧ r = .b q) ∨ (o = .neq ∧ ∃ q, aeq e x y = some q ∧ r = .b (!q)) := by
        unfold abin at h
        split at h
        · exact absurd ⟨_, _, _, _, rfl, rfl⟩ hi
        · exact absurd ⟨_, _, rfl, rfl⟩ hs
        · cases o <;> simp only at h <;> first
            | (cases h; done)
            | skip
          · split at h
            · rename_i q hq; rw [boolK_eq] at h; cases h; exact .inl ⟨rfl, q, hq, rfl⟩
            · cases h
          · split at h
            · rename_i q hq; rw [boolK_eq] at h; cases h; exact .inr ⟨rfl, q, hq, rfl⟩
            · cases h
      have hn : e ≠ .no := by
        rintro rfl
        rcases hform with ⟨_, q, hq, _⟩ | ⟨_, q, hq, _⟩ <;> (cases x <;> simp [aeq] at hq)
      have hbin : ∀ q, aeq e x y = some q → binOp .eql t vx vy = (Op.equal t vx vy >>= fun b => pure (.bool b)) ∧ binOp .neq t vx vy = (Op.equal t vx vy >>= fun b => pure (.bool (!b))) := by
        intro q hq
        have hee : cEq P 5 t = some e := by
          have : e = cEqOf P t := by
            rcases hform with ⟨rfl, _⟩ | ⟨rfl, _⟩ <;> exact he
          exact (cEqOf_inv this.symm hn).1
        obtain ⟨td, _, hc⟩ := cEq_inv hee
        rcases hc with ⟨k0, _, rfl⟩ | ⟨_, rfl⟩ | ⟨_, rfl⟩ | ⟨el, m, _, rfl, _⟩ | ⟨el, _, rfl⟩ | ⟨a, b, _, rfl⟩ | ⟨a, b, c, _, rfl⟩ | ⟨fs, rfl⟩
        · obtain ⟨k, a, b, rfl, rfl, _⟩ := aeq_int hq; exact absurd ⟨_, _, _, _, rfl, rfl⟩ hi
        · obtain ⟨a, b, rfl, rfl, _⟩ := aeq_str hq; exact absurd ⟨_, _, rfl, rfl⟩ hs
        · obtain ⟨a, b, rfl, rfl, _⟩ := aeq_bool hq; cases hx; cases hy; exact ⟨rfl, rfl⟩
        · rcases aeq_ptr hq with ⟨rfl, rfl, _⟩ | ⟨i, o, rfl, rfl, _⟩ | ⟨i, o, rfl, rfl, _⟩ | ⟨i, o, o', rfl, rfl, _⟩ <;> cases hx <;> cases hy <;> exact ⟨rfl, rfl⟩
        · obtain ⟨p, l, c, q, l', c', rfl, rfl, _⟩ := aeq_nils hq hx hy; exact ⟨rfl, rfl⟩
        · obtain ⟨p, q, rfl, rfl, _⟩ := aeq_nilm hq hx hy; exact ⟨rfl, rfl⟩
        · rcases aeq_nilf hq hx hy with ⟨rfl, rfl, _⟩ | ⟨rfl, ⟨a, b, c, rfl⟩, _⟩ | ⟨⟨a, b, c, rfl⟩, rfl, _⟩ <;> exact ⟨rfl, rfl⟩
        · obtain ⟨_, l, rfl, _⟩ := cEq_struct ‹_› hee
          obtain ⟨xs, ys, rfl, rfl, _⟩ := aeq_ag hq
          cases hx; cases hy; exact ⟨rfl, rfl⟩
      rcases hform with ⟨rfl, q, hq, rfl⟩ | ⟨rfl, q, hq, rfl⟩
      · have hg := eqGuard_run (op := .eql) he.symm hn hq hx hy xo yo w
        have hc := (cEqOf_inv he.symm hn).1
        refine ⟨.bool q, ?_, .b _⟩
        simp only [Sem.run_bind, hg, Result.andThen_ok]
        rw [(hbin q hq).1, Sem.run_bind, run_equal hc (by omega) hq hx hy w]; rfl
      · have hg := eqGuard_run (op := .neq) he.symm hn hq hx hy xo yo w
        have hc := (cEqOf_inv he.symm hn).1
        refine ⟨.bool (!q), ?_, .b _⟩
        simp only [Sem.run_bind, hg, Result.andThen_ok]
        rw [(hbin q hq).2, Sem.run_bind, run_equal hc (by omega) hq hx hy w]; rfl

theorem aun_sound {o : UnOp} {x r : AV} (h : aun o x = some r) {vx : Value} (hx : RV Θ G x vx) (w : World) : ∃ v, (Op.unary o vx).run P w = .ok v w ∧ RV Θ G r v := by
  unfold aun at h
  split at h
  · rw [boolK_eq] at h; cases h; cases hx; exact ⟨_, rfl, .b _⟩
  · rw [vi_eq] at h; cases h; cases hx; exact ⟨_, rfl, .i _ _⟩
  · cases hx
    simp only [iarith, vi_eq] at h
    cases h
    exact ⟨_, rfl, .i _ _⟩
  · cases h

end Go.Proofs.YtmlfcopllfdjfaaGreat.Am
