/- An abstract machine for the program's code, and that it is sound: part Am9. -/
import Derived.Test.YtmlfcopllfdjfaaGreatAm8
namespace Go.Proofs.YtmlfcopllfdjfaaGreat.Am
variable {P : Program} {Θ : Th} {G : Gm}

theorem cBytes1_inv {t : TypeId} {n : Nat} (h : cBytes1 P t = some n) : ∃ i, P.info? t = some i ∧ i.bytes = n ∧ 0 < n := by
  unfold cBytes1 at h
  split at h
  · rename_i m hm
    cases h
    unfold cBytes at hm
    cases hi : P.info? t with
    | none => rw [hi] at hm; cases hm
    | some i => rw [hi] at hm; exact ⟨i, rfl, Option.some.inj hm, by omega⟩
  · cases h

section
variable {h h' : AH} {w : World} {nx : Nx} {ρ : Rf → AV} {ρc : Operand → Value} {o : Oper}

theorem zeroCells_size (z : Array Value) (n : Nat) : (Builtin.zeroCells z n).size = n * z.size := by simp [Builtin.zeroCells]

/-- 'builtin' that hands back one value. -/
theorem run_v {s : Sem Value} {v : Value} {w' : World} (h : s.run P w = .ok v w') : (do pure (.value (← s)) : Sem Go.Next).run P w = .ok (.value v) w' := by
  rw [Sem.run_bind, h]; rfl

theorem op_app (hΘ : Thin Θ) {c : Call} {x' y' : Rf} {e : TypeId} {d1 : TypeDesc} {z : List AV} {bytes : Nat} (ho : o.op = .call c) (hb : c.callee = .builtin .append) (hu : at? P c.argTypes 0 = some (.slice e)) (hu1 : at? P c.argTypes 1 = some d1)
    (hd : ∀ k, d1 ≠ .int k) (h1 : cZeroOf P e = some z) (h2 : cBytes1 P e = some bytes)
    (hc : cRefs c.args.toList = some [x', y']) (hx : xop ρ (.app z.length bytes z x' y') h = .ok nx h') (hρ : RRef Θ G ρ ρc) (r : RH P Θ G h w) : OpOK P Θ G h w nx h' ((execOp ρc o).run P w) := by
  obtain ⟨x, y, ha, hx', hy'⟩ := cRefs2 hc
  obtain ⟨t0, q0, u0⟩ := at_inv hu
  obtain ⟨t1, q1, u1⟩ := at_inv hu1
  obtain ⟨z1, z2, z3⟩ := cZeroOf_inv h1
  obtain ⟨zv, hz, hzr⟩ := cZeroCells_sound (Θ := Θ) (G := G) hΘ z1
  have hzl : z.length = zv.cells.size := by simpa using hz.1
  obtain ⟨ie, hie, hib, hbp⟩ := cBytes1_inv h2
  obtain ⟨ie', hie', his⟩ := cSize_some z2
  rw [hie] at hie'; cases hie'
  simp only [xop] at hx
  split at hx
  · rename_i k l hl
    rw [listK_eq] at hx
    obtain ⟨f1, f2, f3⟩ := cellsOfSl_sound r hl (hρ _ _ hy')
    obtain ⟨vs, v1, v2⟩ := f3 k (Nat.le_refl _)
    rw [List.take_of_length_le (by omega)] at v1
    have A : AppSpec P Θ z.length bytes k w l G h (ρc x) (fun s => (Builtin.append_ c.argTypes o.type #[s, ρc y]).run P w) := by
      refine ⟨fun base sLen sCap hs hle => ⟨vs, v1, fun w1 hw1 => ?_⟩, fun base sLen sCap hs hle hsm os hos => ?_⟩
      · rw [hs]
        exact append_place q0 q1 u0 u1 hd z2 f1 hle v2 hw1
      · obtain ⟨f1', f2', f3'⟩ := cellsOfSl_sound r.drew hl (hρ _ _ hy')
        obtain ⟨vs', v1', v2'⟩ := f3' k (Nat.le_refl _)
        rw [List.take_of_length_le (by omega)] at v1'
        rw [hs]
        obtain ⟨nc, n1, n2⟩ := append_grow (P := P) (w := w) (ie := ie) (ty := o.type) q0 q1 u0 u1 hd hie (by omega) f1 hle (by rw [hib]; exact hsm) (os := os) (vs := vs'.toArray) (by rw [his]; exact hos) (by rw [his]; exact v2') hzr
        exact ⟨vs'.toArray, _, nc, e, by simpa using v1', n1, by rw [zeroCells_size, hzl], n2⟩
    obtain ⟨a, v, w', G', rfl, hr, hn, hv⟩ := aappend_sound hΘ r z3 (hρ _ _ hx') f2 A hx
    refine ⟨_, w', G', ?_, hn, .inl ⟨v, rfl, hv⟩⟩
    rw [execOp_builtin ho hb, args2 ha]
    exact run_v hr
  · cases hx

theorem wrap_small {k : Nat} (h : k ≤ 4611686018427387904) : IntKind.i64.wrap (Int.ofNat k) = (k : Int) := by
  have h2 : ((2 : Int) ^ IntKind.i64.bits) = 18446744073709551616 := by decide
  have h3 : ((2 : Int) ^ (IntKind.i64.bits - 1)) = 9223372036854775808 := by decide
  have hm : (Int.ofNat k) % 18446744073709551616 = (k : Int) := by
    show (k : Int) % 18446744073709551616 = k
    omega
  unfold IntKind.wrap
  simp only [h2, h3, hm]
  rw [if_neg]
  simp only [Bool.and_eq_true, decide_eq_true_eq, not_and]
  intro _
  omega

theorem appendz_place {at_ : Array TypeId} {ty t0 t1 elem : TypeId} {k1 kd : IntKind} {size k : Nat} {base : Option Addr} {sLen sCap : Nat} {ie : TypeInfo} (h0 : at_[0]? = some t0) (h1 : at_[1]? = some t1) (hu0 : P.underlying t0 = some (.slice elem)) (hu1 : P.underlying t1 = some (.int k1))
    (hs : cSize P elem = some size) (hi : P.info? elem = some ie) (hk : k ≤ 4611686018427387904) (hb : k * ie.bytes ≤ 140737488355328) (hle : sLen + k ≤ sCap) {zv : Value} (hzv : ∀ w, (zeroValue elem).run P w = .ok zv w) (hsz : zv.cells.size = size) {w w1 : World}
    (hst : StoreAt P base (sLen * size) (Builtin.zeroCells zv.cells k).toList w w1) :
    (Builtin.append_ at_ ty #[.slice base sLen sCap, .int kd (Int.ofNat k)]).run P w = .ok (.slice base (sLen + k) sCap) w1 := by
  have c1 : ¬ ((k : Int) < 0) := by omega
  have c2 : ¬ ((k : Int) * (ie.bytes : Int) > 2 ^ 48) := by
    have : ((k * ie.bytes : Nat) : Int) ≤ 140737488355328 := by omega
    rw [Int.natCast_mul] at this
    have h3 : (2 : Int) ^ 48 = 281474976710656 := by decide
    rw [h3]; omega
  have happ : ∀ w, (if k * size = 0 then pure #[] else (do pure (Builtin.zeroCells (← zeroValue elem).cells k)) : Sem (Array Value)).run P w = .ok (Builtin.zeroCells zv.cells k) w := by
    intro w
    by_cases c : k * size = 0
    · rw [if_pos c]
      have : (Builtin.zeroCells zv.cells k) = #[] := Array.eq_empty_of_size_eq_zero (by rw [zeroCells_size, hsz, c])
      rw [this]; rfl
    · rw [if_neg c, Sem.run_bind, hzv]; rfl
  unfold Builtin.append_
  simp only [h0, h1, List.getElem?_toArray, List.getElem?_cons_zero, List.getElem?_cons_succ, Sem.run_bind, run_underlying hu0, run_underlying hu1, Result.andThen_ok, run_size hs, Sem.run_pure, if_true, asInt, asIntOf, wrap_small hk]
  rw [if_neg c1]
  simp only [Sem.run_bind, run_info hi, Result.andThen_ok]
  rw [if_neg c2]
  simp only [Sem.run_bind, Sem.run_pure, Result.andThen_ok, Int.toNat_natCast]
  rw [if_pos hle]
  simp only [Bool.not_true, Bool.false_eq_true, if_false, Sem.run_bind]
  rw [happ w]
  simp only [Result.andThen_ok]
  cases base with
  | none => simp only [StoreAt] at hst ⊢; rw [hst]; rfl
  | some a => simp only [StoreAt] at hst ⊢; rw [Sem.run_bind, hst]; rfl

theorem appendz_grow {at_ : Array TypeId} {ty t0 t1 elem : TypeId} {k1 kd : IntKind} {k : Nat} {base : Option Addr} {sLen sCap : Nat} {ie : TypeInfo} (h0 : at_[0]? = some t0) (h1 : at_[1]? = some t1) (hu0 : P.underlying t0 = some (.slice elem)) (hu1 : P.underlying t1 = some (.int k1))
    (hi : P.info? elem = some ie) (hbp : 0 < ie.bytes) (hk : k ≤ 4611686018427387904) (hb : k * ie.bytes ≤ 140737488355328) (hle : ¬ sLen + k ≤ sCap) (hsm : (sLen + k) * ie.bytes ≤ 140737488355328) {zv : Value} (hzv : ∀ w, (zeroValue elem).run P w = .ok zv w) (hsz : zv.cells.size = ie.size) {w : World} {os : Array Value}
    (ho : (Builtin.firstCells ie.size sLen (.slice base sLen sCap)).run P w.drew = .ok os w.drew) :
    ∃ nc, sLen + k ≤ nc ∧ (Builtin.append_ at_ ty #[.slice base sLen sCap, .int kd (Int.ofNat k)]).run P w = .ok (.slice (some ⟨w.heap.size, 0, none⟩) (sLen + k) nc) (w.drew.alloc (.cells (os ++ Builtin.zeroCells zv.cells k ++ Builtin.zeroCells zv.cells (nc - (sLen + k))) elem)) := by
  refine ⟨(Question.appendCap (sLen + k) sCap elem).cut (w.tape w.drawn (.appendCap (sLen + k) sCap elem)), cut_cap _ _ _ _, ?_⟩
  have c1 : ¬ ((k : Int) < 0) := by omega
  have c2 : ¬ ((k : Int) * (ie.bytes : Int) > 2 ^ 48) := by
    have : ((k * ie.bytes : Nat) : Int) ≤ 140737488355328 := by omega
    rw [Int.natCast_mul] at this
    have h3 : (2 : Int) ^ 48 = 281474976710656 := by decide
    rw [h3]; omega
  have c3 : ¬ (((sLen + k : Nat) : Int) > IntKind.i64.max ∧ (True ∨ ie.bytes = 0)) := by
    rintro ⟨h, _⟩
    have h3 : IntKind.i64.max = 9223372036854775807 := by decide
    rw [h3] at h
    have : sLen + k ≤ (sLen + k) * ie.bytes := Nat.le_mul_of_pos_right _ hbp
    omega
  have c4 : ¬ Builtin.nextslicecap (sLen + k) sCap * ie.bytes > 2 ^ 48 := by
    have h1 := nextslicecap_le (need := sLen + k) (cap := sCap) (by omega)
    have h2 : Builtin.nextslicecap (sLen + k) sCap * ie.bytes ≤ 2 * (sLen + k) * ie.bytes := Nat.mul_le_mul_right _ h1
    rw [Nat.mul_assoc] at h2
    have h3 : (2 : Nat) ^ 48 = 281474976710656 := by decide
    rw [h3]; omega
  have happ : ∀ w, (if k * ie.size = 0 then pure #[] else (do pure (Builtin.zeroCells (← zeroValue elem).cells k)) : Sem (Array Value)).run P w = .ok (Builtin.zeroCells zv.cells k) w := by
    intro w
    by_cases c : k * ie.size = 0
    · rw [if_pos c]
      have : (Builtin.zeroCells zv.cells k) = #[] := Array.eq_empty_of_size_eq_zero (by rw [zeroCells_size, hsz, c])
      rw [this]; rfl
    · rw [if_neg c, Sem.run_bind, hzv]; rfl
  unfold Builtin.append_
  simp only [h0, h1, List.getElem?_toArray, List.getElem?_cons_zero, List.getElem?_cons_succ, Sem.run_bind, run_underlying hu0, run_underlying hu1, Result.andThen_ok, run_size (size_of_info hi), Sem.run_pure, if_true, asInt, asIntOf, wrap_small hk]
  rw [if_neg c1]
  simp only [Sem.run_bind, run_info hi, Result.andThen_ok]
  rw [if_neg c2]
  simp only [Sem.run_bind, Sem.run_pure, Result.andThen_ok, Int.toNat_natCast]
  rw [if_neg hle]
  simp only [Sem.run_bind, run_info hi, Result.andThen_ok]
  rw [if_neg c3]
  simp only [Sem.run_bind, run_info hi, Result.andThen_ok]
  rw [if_neg c4]
  simp only [Sem.run_bind, run_choose, forced_cap, Bool.false_eq_true, if_false, Result.andThen_ok, run_info hi, run_askRoom, World.drew_eq, ho, Bool.not_true]
  rw [happ]
  simp only [Result.andThen_ok, hzv, newRow, Sem.run_bind, run_newObj, Sem.run_pure]
  rfl

theorem op_appz (hΘ : Thin Θ) {c : Call} {x' y' : Rf} {e : TypeId} {k1 : IntKind} {z : List AV} {bytes : Nat} (ho : o.op = .call c) (hb : c.callee = .builtin .append) (hu : at? P c.argTypes 0 = some (.slice e)) (hu1 : at? P c.argTypes 1 = some (.int k1))
    (h1 : cZeroOf P e = some z) (h2 : cBytes1 P e = some bytes) (hc : cRefs c.args.toList = some [x', y']) (hx : xop ρ (.appz z.length bytes z x' y') h = .ok nx h') (hρ : RRef Θ G ρ ρc) (r : RH P Θ G h w) : OpOK P Θ G h w nx h' ((execOp ρc o).run P w) := by
  obtain ⟨x, y, ha, hx', hy'⟩ := cRefs2 hc
  obtain ⟨t0, q0, u0⟩ := at_inv hu
  obtain ⟨t1, q1, u1⟩ := at_inv hu1
  obtain ⟨z1, z2, z3⟩ := cZeroOf_inv h1
  obtain ⟨zv, hz, hzr⟩ := cZeroCells_sound (Θ := Θ) (G := G) hΘ z1
  have hzl : z.length = zv.cells.size := by simpa using hz.1
  obtain ⟨ie, hie, hib, hbp⟩ := cBytes1_inv h2
  obtain ⟨ie', hie', his⟩ := cSize_some z2
  rw [hie] at hie'; cases hie'
  simp only [xop] at hx
  split at hx
  · rename_i kd k e1
    have hy := int_inv e1 (hρ _ _ hy')
    split at hx
    · rename_i hk1 hk2
      have hk1' := Nat.le_of_ble_eq_true hk1
      have hk2' := Nat.le_of_ble_eq_true hk2
      rw [listK_eq] at hx
      have hnew : RL Θ G (repl k z) (Builtin.zeroCells zv.cells k).toList := by
        have := hz.repl k (k * zv.cells.size) rfl
        exact this
      have A : AppSpec P Θ z.length bytes k w (repl k z) G h (ρc x) (fun s => (Builtin.append_ c.argTypes o.type #[s, ρc y]).run P w) := by
        refine ⟨fun base sLen sCap hs hle => ⟨_, hnew, fun w1 hw1 => ?_⟩, fun base sLen sCap hs hle hsm os hos => ?_⟩
        · rw [hs, hy]
          exact appendz_place q0 q1 u0 u1 z2 hie hk2' (by rw [hib]; exact hk1') hle hzr hzl.symm hw1
        · rw [hs, hy]
          obtain ⟨nc, n1, n2⟩ := appendz_grow (P := P) (w := w) (ty := o.type) (kd := kd) q0 q1 u0 u1 hie (by omega) hk2' (by rw [hib]; exact hk1') hle (by rw [hib]; exact hsm) hzr (by rw [his, hzl]) (by rw [his]; exact hos)
          exact ⟨_, _, nc, e, hnew, n1, by rw [zeroCells_size, hzl], n2⟩
      obtain ⟨a, v, w', G', rfl, hr, hn, hv⟩ := aappend_sound hΘ r z3 (hρ _ _ hx') (by rw [repl_length]) A hx
      refine ⟨_, w', G', ?_, hn, .inl ⟨v, rfl, hv⟩⟩
      rw [execOp_builtin ho hb, args2 ha]
      exact run_v hr
    · cases hx
  · cases hx

end
end Go.Proofs.YtmlfcopllfdjfaaGreat.Am
