/- An abstract machine for the program's code, and that it is sound: part Am5. -/
import Derived.Test.YtmlfcopllfdjfaaGreatAm4
namespace Go.Proofs.YtmlfcopllfdjfaaGreat.Am
variable {P : Program} {Θ : Th} {G : Gm}

/-- What one operation of the model does is what the machine says. -/
def OpOK (P : Program) (Θ : Th) (G : Gm) (h : AH) (w : World) (nx : Nx) (h' : AH) (res : Result Go.Next) : Prop :=
  match nx with
  | .v a => ∃ nxt w' G', res = .ok nxt w' ∧ Next P Θ G h w G' h' w' ∧ ((∃ v, nxt = .value v ∧ RV Θ G' a v) ∨ (nxt = .skip ∧ a = .un))
  | .call f args => h' = h ∧ ∃ cargs : Array Value, res = (callFunc f cargs).run P w ∧ RL Θ G args cargs.toList
  | .yld l args => h' = h ∧ ∃ (L : Loc) (cargs : Array Value), G l = some L ∧ res = (Instr.yield L.blk cargs).run P w ∧ RL Θ G args cargs.toList

def RRef (Θ : Th) (G : Gm) (ρ : Rf → AV) (ρc : Operand → Value) : Prop := ∀ x y, cRef x = some y → RV Θ G (ρ y) (ρc x)

section
variable {h h' : AH} {w : World} {nx : Nx} {ρ : Rf → AV} {ρc : Operand → Value} {o : Oper}

theorem OpOK.val (r : RH P Θ G h w) {a : AV} {v : Value} {res : Result Go.Next} (hv : RV Θ G a v) (e : res = .ok (.value v) w) : OpOK P Θ G h w (.v a) h res :=
  ⟨_, w, G, e, .refl r, .inl ⟨v, rfl, hv⟩⟩

theorem ok_inj {α : Type} {a b : α} {h h' : AH} (e : (Res.ok a h : Res α) = .ok b h') : a = b ∧ h = h' := by cases e; exact ⟨rfl, rfl⟩

theorem op_mv {x : Operand} {y : Rf} (ho : o.op = .move x ∨ o.op = .assign x) (hc : cRef x = some y) (hx : xop ρ (.mv y) h = .ok nx h') (hρ : RRef Θ G ρ ρc) (r : RH P Θ G h w) :
    OpOK P Θ G h w nx h' ((execOp ρc o).run P w) := by
  obtain ⟨rfl, rfl⟩ := ok_inj hx
  exact .val r (hρ _ _ hc) (by rcases ho with ho | ho <;> simp [execOp, ho])

theorem op_pick {c a b : Operand} {c' a' b' : Rf} (ho : o.op = .pick c a b) (h1 : cRef c = some c') (h2 : cRef a = some a') (h3 : cRef b = some b') (hx : xop ρ (.pick c' a' b') h = .ok nx h') (hρ : RRef Θ G ρ ρc) (r : RH P Θ G h w) :
    OpOK P Θ G h w nx h' ((execOp ρc o).run P w) := by
  have hc := hρ _ _ h1
  simp only [xop] at hx
  split at hx
  · rename_i e
    rw [e] at hc
    obtain ⟨rfl, rfl⟩ := ok_inj hx
    cases hv : ρc c <;> rw [hv] at hc <;> cases hc
    · exact .val r (hρ _ _ h2) (by simp [execOp, ho, hv, asBool])
  · rename_i e
    rw [e] at hc
    obtain ⟨rfl, rfl⟩ := ok_inj hx
    cases hv : ρc c <;> rw [hv] at hc <;> cases hc
    · exact .val r (hρ _ _ h3) (by simp [execOp, ho, hv, asBool])
  · cases hx

theorem hnew_eq {α : Type} (h : AH) (ob : AO) (c : Nat → AH → Res α) : hnew h ob c = c h.nx ⟨h.nx + 1, h.o.set h.nx ob⟩ := by
  unfold hnew
  rw [natK_eq, natK_eq, Tr.setK_eq]

theorem hset_eq {α : Type} (h : AH) (id : Nat) (ob : AO) (c : AH → Res α) : hset h id ob c = c ⟨h.nx, h.o.set id ob⟩ := by
  unfold hset
  rw [Tr.setK_eq]

theorem Gm.put_same (G : Gm) (id : Nat) (L : Loc) : (G.put id L) id = some L := if_pos rfl

theorem row_get (l : List AV) (off : Nat) (v : AV) (h : cget l.length l.length l .e off = some v) : l[off]? = some v := by
  rw [cget_eq] at h
  split at h
  · rename_i hlt
    simp only [Tr.get] at h
    cases l with
    | nil => simp at hlt
    | cons a l =>
      simp only at h
      rw [Nat.mod_eq_of_lt hlt] at h
      have : ∀ (l : List AV) (i : Nat), agetI l i = l[i]? := by
        intro l
        induction l with
        | nil => intro i; rfl
        | cons a l ih => intro i; cases i with
          | zero => rfl
          | succ i => simp only [agetI, ih]; rfl
      rw [this] at h; exact h
  · cases h

theorem agetI_eq : ∀ (l : List AV) (i : Nat), agetI l i = l[i]?
  | [], _ => rfl
  | _ :: _, 0 => rfl
  | _ :: l, i + 1 => by simp only [agetI, agetI_eq l i]; rfl

/-- A new row of cells. -/
theorem Next.newRow (r : RH P Θ G h w) {l : List AV} {vs : Array Value} (ty : TypeId) (hl : RL Θ G l vs.toList) :
    Next P Θ G h w (G.put h.nx ⟨w.heap.size, 0, vs.size⟩) ⟨h.nx + 1, h.o.set h.nx (row l)⟩ (w.alloc (.cells vs ty)) := by
  refine Next.new r (row l) _ vs.size ⟨vs, ty, (0, 0), rfl, ?_⟩
  have hlen : l.length = vs.size := by simpa using hl.1
  refine ⟨by simp, by simp [hlen], fun _ => hlen.symm, fun off v hv => ?_, fun _ off _ => by simp⟩
  have := row_get l off v hv
  obtain ⟨c, h1, h2⟩ := hl.get this
  exact ⟨c, by simpa using h1, h2.ext (Ext.put r _)⟩

theorem op_alloc (hΘ : Thin Θ) {t : TypeId} {z : List AV} (ho : o.op = .alloc t) (h1 : cZeroCells P t = some z) (hx : xop ρ (.alloc z) h = .ok nx h') (r : RH P Θ G h w) :
    OpOK P Θ G h w nx h' ((execOp ρc o).run P w) := by
  simp only [xop, hnew_eq] at hx
  obtain ⟨rfl, rfl⟩ := ok_inj hx
  obtain ⟨v, hv, hz⟩ := cZeroCells_sound (G := G) hΘ h1
  refine ⟨_, _, _, ?_, Next.newRow r t hv, .inl ⟨_, rfl, .p 0 (Gm.put_same _ _ _)⟩⟩
  simp [execOp, ho, Instr.alloc, hz, newVar, newRow, Loc.at]

theorem op_box (hΘ : Thin Θ) {t : TypeId} {n : Nat} {x : Operand} {y : Rf} (ho : o.op = .box t x) (h2 : cRef x = some y) (hx : xop ρ (.box n y) h = .ok nx h') (hρ : RRef Θ G ρ ρc) (r : RH P Θ G h w) :
    OpOK P Θ G h w nx h' ((execOp ρc o).run P w) := by
  simp only [xop] at hx
  split at hx
  · rw [hnew_eq] at hx
    obtain ⟨rfl, rfl⟩ := ok_inj hx
    refine ⟨_, _, _, ?_, Next.newRow r t ((hρ _ _ h2).cells hΘ), .inl ⟨_, rfl, .p 0 (Gm.put_same _ _ _)⟩⟩
    simp [execOp, ho, Instr.box, newVar, newRow, Loc.at]
  · cases hx

theorem op_ld {t : TypeId} {agg : Bool} {n : Nat} {x : Operand} {y : Rf} (ho : o.op = .load t x) (h1 : cAgg P t = some agg) (h2 : cSize P t = some n) (h3 : cRef x = some y)
    (hx : xop ρ (.ld agg n y) h = .ok nx h') (hρ : RRef Θ G ρ ρc) (r : RH P Θ G h w) : OpOK P Θ G h w nx h' ((execOp ρc o).run P w) := by
  have hv := hρ _ _ h3
  simp only [xop] at hx
  split at hx
  · rename_i id off e
    rw [e] at hv
    obtain ⟨L, hL, hp⟩ : ∃ L, G id = some L ∧ ρc x = .pointer (some (L.at off)) := by
      generalize ρc x = q at hv
      cases hv with | p _ hL => exact ⟨_, hL, rfl⟩
    cases agg with
    | true =>
      simp only at hx
      split at hx
      · rename_i l hl
        obtain ⟨rfl, rfl⟩ := ok_inj hx
        obtain ⟨vs, r1, r2, _, r4⟩ := r.load hl hL
        exact .val r (RL.ag_iff.2 (by simpa using r1)) (by simp [execOp, ho, hp, Instr.loadAt, Instr.sureAddr, loadVar, run_agg h1, run_size h2, r4])
      · cases hx
    | false =>
      simp only at hx
      split at hx
      · rename_i v hl
        obtain ⟨rfl, rfl⟩ := ok_inj hx
        obtain ⟨vs, r1, r2, r3, _⟩ := r.load hl hL
        obtain ⟨c, rfl, hc⟩ := r1.one
        have := r3 0 c rfl
        rw [Nat.add_zero] at this
        exact .val r hc (by simp [execOp, ho, hp, Instr.loadAt, Instr.sureAddr, loadVar, run_agg h1, this])
      · cases hx
  · cases hx

theorem OpOK.skip {res : Result Go.Next} {G' : Gm} {w' : World} (n : Next P Θ G h w G' h' w') (e : res = .ok .skip w') : OpOK P Θ G h w (.v .un) h' res :=
  ⟨_, w', G', e, n, .inr ⟨rfl, rfl⟩⟩

theorem op_st (hΘ : Thin Θ) {t : TypeId} {n : Nat} {a v : Operand} {a' v' : Rf} (ho : o.op = .store t a v) (h1 : cSize P t = some n) (h2 : cRef a = some a') (h3 : cRef v = some v')
    (hx : xop ρ (.st n a' v') h = .ok nx h') (hρ : RRef Θ G ρ ρc) (r : RH P Θ G h w) : OpOK P Θ G h w nx h' ((execOp ρc o).run P w) := by
  have hp := hρ _ _ h2
  have hv := (hρ _ _ h3).cells hΘ
  simp only [xop] at hx
  split at hx
  · rename_i id off e hn
    rw [e] at hp
    obtain ⟨L, hL, hp⟩ : ∃ L, G id = some L ∧ ρc a = .pointer (some (L.at off)) := by
      generalize ρc a = q at hp
      cases hp with | p _ hL => exact ⟨_, hL, rfl⟩
    obtain ⟨h1', w1, hc, _, hs, hn'⟩ := r.store hΘ hx hL hv
    obtain ⟨rfl, rfl⟩ := ok_inj hc
    refine .skip hn' ?_
    have hsz : (ρc v).cells.size = n := by
      have := hv.1; simp at this; rw [← this]; exact Nat.eq_of_beq_eq_true hn
    simp [execOp, ho, hp, Instr.storeAt, Instr.sureAddr, storeVar, run_size h1, hsz, hs]
  · cases hx

theorem op_nck {x : Operand} {y : Rf} (ho : o.op = .nilCheck x) (h1 : cRef x = some y) (hx : xop ρ (.nck y) h = .ok nx h') (hρ : RRef Θ G ρ ρc) (r : RH P Θ G h w) :
    OpOK P Θ G h w nx h' ((execOp ρc o).run P w) := by
  have hv := hρ _ _ h1
  simp only [xop] at hx
  split at hx
  · rename_i e
    obtain ⟨rfl, rfl⟩ := ok_inj hx
    rw [e] at hv
    refine .val r hv ?_
    generalize hq : ρc x = q at hv
    cases hv
    simp [execOp, ho, hq]
  · rename_i e
    obtain ⟨rfl, rfl⟩ := ok_inj hx
    rw [e] at hv
    refine .val r hv ?_
    generalize hq : ρc x = q at hv
    cases hv with | f hf _ _ _ _ =>
      cases hf
      simp [execOp, ho, hq]
  · rename_i e
    obtain ⟨rfl, rfl⟩ := ok_inj hx
    rw [e] at hv
    refine .val r hv ?_
    generalize hq : ρc x = q at hv
    cases hv with | f hf _ _ _ _ =>
      cases hf
      simp [execOp, ho, hq]
  · cases hx

theorem toNx_inv {a : Option AV} (e : toNx h a = .ok nx h') : ∃ v, a = some v ∧ nx = .v v ∧ h' = h := by
  cases a with
  | none => cases e
  | some v => cases e; exact ⟨v, rfl, rfl, rfl⟩

theorem op_bin {op : BinOp} {t t' : TypeId} {x y : Operand} {x' y' : Rf} (ho : o.op = .binOp op t x y t') (h1 : cRef x = some x') (h2 : cRef y = some y')
    (hx : xop ρ (.bin op (eqFor P op t) x' y') h = .ok nx h') (hρ : RRef Θ G ρ ρc) (r : RH P Θ G h w) : OpOK P Θ G h w nx h' ((execOp ρc o).run P w) := by
  obtain ⟨a, ha, rfl, rfl⟩ := toNx_inv hx
  obtain ⟨v, hr, hv⟩ := abin_sound (P := P) ha (hρ _ _ h1) (hρ _ _ h2) t rfl x y w
  refine .val r hv ?_
  have : execOp ρc o = (do eqGuard op t x y (ρc x) (ρc y); binOp op t (ρc x) (ρc y) : Sem Value) >>= fun v => pure (.value v) := by simp only [execOp, ho]
  rw [this, Sem.run_bind, hr]; rfl

theorem op_un {op : UnOp} {t : TypeId} {x : Operand} {x' : Rf} (ho : o.op = .unOp op t x) (h1 : cRef x = some x') (hx : xop ρ (.un op x') h = .ok nx h') (hρ : RRef Θ G ρ ρc) (r : RH P Θ G h w) :
    OpOK P Θ G h w nx h' ((execOp ρc o).run P w) := by
  obtain ⟨a, ha, rfl, rfl⟩ := toNx_inv hx
  obtain ⟨v, hr, hv⟩ := aun_sound (P := P) ha (hρ _ _ h1) w
  exact .val r hv (by simp [execOp, ho, hr])

theorem op_fa {s : TypeId} {x : Operand} {y : Rf} {i : Nat} {fs : Array Field} {f : Field} {n : Nat} (ho : o.op = .fieldAddr s x i) (h1 : P.underlying s = some (.struct fs)) (h2 : fs[i]? = some f) (h3 : cSize P f.type = some (n + 1)) (h4 : cRef x = some y)
    (hx : xop ρ (.fa f.offset y) h = .ok nx h') (hρ : RRef Θ G ρ ρc) (r : RH P Θ G h w) : OpOK P Θ G h w nx h' ((execOp ρc o).run P w) := by
  have hv := hρ _ _ h4
  simp only [xop] at hx
  split at hx
  · rename_i id off e
    rw [natK_eq] at hx
    obtain ⟨rfl, rfl⟩ := ok_inj hx
    rw [e] at hv
    obtain ⟨L, hL, hp⟩ : ∃ L, G id = some L ∧ ρc x = .pointer (some (L.at off)) := by
      generalize ρc x = q at hv
      cases hv with | p _ hL => exact ⟨_, hL, rfl⟩
    refine .val r (.p _ hL) ?_
    simp [execOp, ho, hp, Instr.fieldAt, run_underlying h1, h2, Instr.sureAddr, fieldPlace, run_size h3, Loc.at_add]
  · cases hx

theorem op_xt {x : Operand} {y : Rf} {i : Nat} (ho : o.op = .extract x i) (h1 : cRef x = some y) (hx : xop ρ (.xt y i) h = .ok nx h') (hρ : RRef Θ G ρ ρc) (r : RH P Θ G h w) :
    OpOK P Θ G h w nx h' ((execOp ρc o).run P w) := by
  have hv := hρ _ _ h1
  simp only [xop] at hx
  split at hx
  · rename_i vs e
    obtain ⟨a, ha, rfl, rfl⟩ := toNx_inv hx
    rw [e] at hv
    obtain ⟨cs, hp, hl⟩ : ∃ cs : Array Value, ρc x = .tuple cs ∧ RL Θ G vs cs.toList := by
      generalize ρc x = q at hv
      cases hv with | tp a b => exact ⟨_, rfl, RL.tp_iff.1 (.tp a b)⟩
    rw [agetI_eq] at ha
    obtain ⟨c, hc, hr⟩ := hl.get ha
    have hc' : cs[i]? = some c := by simpa using hc
    exact .val r hr (by simp [execOp, ho, hp, Instr.extract, hc'])
  · cases hx

end
end Go.Proofs.YtmlfcopllfdjfaaGreat.Am
