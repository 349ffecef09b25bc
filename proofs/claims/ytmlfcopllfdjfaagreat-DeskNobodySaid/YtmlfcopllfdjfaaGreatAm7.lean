/- An abstract machine for the program's code, and that it is sound: part Am7. -/
import Derived.Test.YtmlfcopllfdjfaaGreatAm6
namespace Go.Proofs.YtmlfcopllfdjfaaGreat.Am
variable {P : Program} {Θ : Th} {G : Gm}

section
variable {h h' : AH} {w : World} {nx : Nx} {ρ : Rf → AV} {ρc : Operand → Value} {o : Oper}

/-! ### Slice expressions -/

theorem oref_inv {x : Option Operand} {y : Option Rf} (h : oref x = some y) : (x = none ∧ y = none) ∨ ∃ a b, x = some a ∧ y = some b ∧ cRef a = some b := by
  cases x with
  | none => simp only [oref] at h; cases h; exact .inl ⟨rfl, rfl⟩
  | some a =>
    simp only [oref] at h
    cases hc : cRef a with
    | none => rw [hc] at h; cases h
    | some b => rw [hc] at h; cases h; exact .inr ⟨a, b, rfl, rfl, hc⟩

theorem bnd_some {x : AV} {v : Value} {d most m : Nat} (h : bnd (some x) d most = some m) (hv : RV Θ G x v) :
    m ≤ most ∧ ∀ (c : BoundsCode) (w : World), (Instr.sliceBound v most c).run P w = .ok m w := by
  unfold bnd at h
  split at h
  · rename_i hx; cases hx
  · rename_i k n hx
    cases hx
    cases hv
    split at h
    · rename_i m'
      split at h
      · rename_i hle
        cases h
        have hle' := Nat.le_of_ble_eq_true hle
        refine ⟨hle', fun c w => ?_⟩
        have hc : (0 : Int) ≤ Int.ofNat m ∧ Int.ofNat m ≤ (most : Int) := ⟨Int.natCast_nonneg m, Int.ofNat_le.2 hle'⟩
        simp only [Instr.sliceBound, asIntOf, Sem.run_bind, Sem.run_pure, Result.andThen_ok, if_pos hc]
        rfl
      · cases h
    · cases h
  · cases h

theorem run_sliceBounds (hρ : RRef Θ G ρ ρc) {isS : Bool} {len cap m b a : Nat} {lo hi mx : Option Operand} {lo' hi' mx' : Option Rf} (h1 : oref lo = some lo') (h2 : oref hi = some hi') (h3 : oref mx = some mx') (hmx : mx.isSome = true → hi.isSome = true)
    (e1 : bnd (ro ρ mx') cap cap = some m) (e2 : bnd (ro ρ hi') len m = some b) (e3 : bnd (ro ρ lo') 0 b = some a) (w : World) :
    (Instr.sliceBounds isS len cap (lo.map ρc) (hi.map ρc) (mx.map ρc)).run P w = .ok (a, b, m) w := by
  unfold Instr.sliceBounds
  rcases oref_inv h3 with ⟨rfl, rfl⟩ | ⟨x, y, rfl, rfl, hc⟩
  · simp only [ro, bnd] at e1; cases e1
    rcases oref_inv h2 with ⟨rfl, rfl⟩ | ⟨x, y, rfl, rfl, hc2⟩
    · simp only [ro, bnd] at e2; cases e2
      rcases oref_inv h1 with ⟨rfl, rfl⟩ | ⟨x, y, rfl, rfl, hc1⟩
      · simp only [ro, bnd] at e3; cases e3
        simp
      · obtain ⟨_, h⟩ := bnd_some (P := P) e3 (hρ _ _ hc1)
        simp [h]
    · obtain ⟨_, h'⟩ := bnd_some (P := P) e2 (hρ _ _ hc2)
      rcases oref_inv h1 with ⟨rfl, rfl⟩ | ⟨x, y, rfl, rfl, hc1⟩
      · simp only [ro, bnd] at e3; cases e3
        simp [h']
      · obtain ⟨_, h⟩ := bnd_some (P := P) e3 (hρ _ _ hc1)
        simp [h, h']
  · obtain ⟨_, h''⟩ := bnd_some (P := P) e1 (hρ _ _ hc)
    rcases oref_inv h2 with ⟨rfl, rfl⟩ | ⟨x, y, rfl, rfl, hc2⟩
    · simp at hmx
    · obtain ⟨_, h'⟩ := bnd_some (P := P) e2 (hρ _ _ hc2)
      rcases oref_inv h1 with ⟨rfl, rfl⟩ | ⟨x, y, rfl, rfl, hc1⟩
      · simp only [ro, bnd] at e3; cases e3
        simp [h', h'']
      · obtain ⟨_, h⟩ := bnd_some (P := P) e3 (hρ _ _ hc1)
        simp [h, h', h'']

theorem bnd_le {x : Option AV} {d most m : Nat} (h : bnd x d most = some m) (hd : d ≤ most) : m ≤ most := by
  unfold bnd at h
  split at h
  · cases h; exact hd
  · split at h
    · split at h
      · rename_i hle; cases h; exact Nat.le_of_ble_eq_true hle
      · cases h
    · cases h
  · cases h

theorem bnd_mono {x : Option AV} {d q c m : Nat} (h : bnd x d q = some m) (hq : q ≤ c) : bnd x d c = some m := by
  unfold bnd at h ⊢
  split at h
  · exact h
  · split at h
    · split at h
      · rename_i m' hle
        cases h
        have := Nat.le_of_ble_eq_true hle
        simp only [Nat.ble_eq_true_of_le (Nat.le_trans this hq)]
      · cases h
    · cases h
  · cases h

theorem bnd_or {x : Option AV} {d q m : Nat} (h : bnd x d q = some m) : m = d ∨ m ≤ q := by
  unfold bnd at h
  split at h
  · cases h; exact .inl rfl
  · split at h
    · split at h
      · rename_i hle; cases h; exact .inr (Nat.le_of_ble_eq_true hle)
      · cases h
    · cases h
  · cases h

theorem ext_map (s : ByteArray) (a b : Nat) : (s.extract a b).data.toList.map UInt8.toNat = ((s.data.toList.map UInt8.toNat).drop a).take (b - a) := by
  rw [← List.map_drop, ← List.map_take]
  congr 1
  simp [Array.toList_extract]

theorem op_slS {t : TypeId} {x : Operand} {x' : Rf} {lo hi : Option Operand} {lo' hi' : Option Rf} (ho : o.op = .slice t x lo hi none) (h0 : P.underlying t = some .string) (hx' : cRef x = some x') (h1 : oref lo = some lo') (h2 : oref hi = some hi')
    (hx : xop ρ (.slS x' lo' hi') h = .ok nx h') (hρ : RRef Θ G ρ ρc) (r : RH P Θ G h w) : OpOK P Θ G h w nx h' ((execOp ρc o).run P w) := by
  simp only [xop] at hx
  split at hx
  · rename_i l e
    split at hx
    · rename_i b e2
      split at hx
      · rename_i a e3
        rw [natsK_eq] at hx
        obtain ⟨rfl, rfl⟩ := ok_inj hx
        obtain ⟨s, hp, rfl⟩ := str_inv e (hρ _ _ hx')
        rw [← ext_map]
        have hlen : (s.data.toList.map UInt8.toNat).length = s.size := by rw [List.length_map]; exact bytes_len s
        rw [hlen] at e2
        have hb := run_sliceBounds (P := P) hρ (isS := false) (cap := s.size) (mx := none) (mx' := none) h1 h2 rfl (by simp) rfl e2 e3 w
        refine .val r (.s _) ?_
        simp only [execOp, ho, hp, Instr.sliceAt, Instr.slice, Sem.run_bind, run_underlying h0, Result.andThen_ok, Option.map_none, Option.isSome_none, Bool.false_eq_true, if_false] at hb ⊢
        rw [hb]
        rfl
      · cases hx
    · cases hx
  · cases hx

theorem op_slA {t e : TypeId} {n sz : Nat} {x : Operand} {x' : Rf} {lo hi : Option Operand} {lo' hi' : Option Rf} (ho : o.op = .slice t x lo hi none) (h0 : P.underlying t = some (.array n e)) (hs : cSize P e = some sz) (hx' : cRef x = some x') (h1 : oref lo = some lo') (h2 : oref hi = some hi')
    (hx : xop ρ (.slA n sz x' lo' hi') h = .ok nx h') (hρ : RRef Θ G ρ ρc) (r : RH P Θ G h w) : OpOK P Θ G h w nx h' ((execOp ρc o).run P w) := by
  simp only [xop] at hx
  split at hx
  · rename_i id off e1
    split at hx
    · rename_i b e2
      split at hx
      · rename_i a e3
        obtain ⟨L, hL, hp⟩ := ptr_inv e1 (hρ _ _ hx')
        have hb := run_sliceBounds (P := P) hρ (isS := false) (cap := n) (mx := none) (mx' := none) h1 h2 rfl (by simp) rfl e2 e3 w
        have hrun : (execOp ρc o).run P w = .ok (.value (.slice (some (if n = a then L.at off else (L.at off).add (a * sz))) (b - a) (n - a))) w := by
          simp only [execOp, ho, hp, Instr.sliceAt, Instr.sureAddr, Sem.run_bind, run_underlying h0, Result.andThen_ok, Sem.run_pure, Option.map_none] at hb ⊢
          rw [hb]
          simp only [Result.andThen_ok, run_size hs]
        have hbn := bnd_le e2 (Nat.le_refl _)
        have hab := bnd_le e3 (Nat.zero_le _)
        split at hx
        · rename_i hq
          have hq' : a = n := Nat.eq_of_beq_eq_true hq
          obtain ⟨rfl, rfl⟩ := ok_inj hx
          rw [if_pos hq'.symm, show b - a = 0 by omega, show n - a = 0 by omega] at hrun
          exact .val r (.sle off 0 0 hL) hrun
        · rename_i hq
          have hq' : n ≠ a := fun e => by subst e; simp at hq
          rw [natK_eq, natK_eq, natK_eq] at hx
          obtain ⟨rfl, rfl⟩ := ok_inj hx
          rw [if_neg hq', Loc.at_add] at hrun
          exact .val r (.sle _ _ _ hL) hrun
      · cases hx
    · cases hx
  · cases hx

theorem run_sliceL (hρ : RRef Θ G ρ ρc) {t e : TypeId} {sz len cap m b a : Nat} {ad : Option Addr} {x : Operand} {lo hi mx : Option Operand} {lo' hi' mx' : Option Rf} (ho : o.op = .slice t x lo hi mx) (h0 : P.underlying t = some (.slice e)) (hs : cSize P e = some sz)
    (hp : ρc x = .slice ad len cap) (h1 : oref lo = some lo') (h2 : oref hi = some hi') (h3 : oref mx = some mx') (hmx : mx.isSome = true → hi.isSome = true)
    (e1 : bnd (ro ρ mx') cap cap = some m) (e2 : bnd (ro ρ hi') len m = some b) (e3 : bnd (ro ρ lo') 0 b = some a) (w : World) :
    (execOp ρc o).run P w = .ok (.value (.slice (if m = a then ad else ad.map (·.add (a * sz))) (b - a) (m - a))) w := by
  have hb := run_sliceBounds (P := P) hρ (isS := true) (cap := cap) h1 h2 h3 hmx e1 e2 e3 w
  simp only [execOp, ho, hp, Instr.sliceAt, Instr.slice, Sem.run_bind, run_underlying h0, Result.andThen_ok]
  rw [hb]
  simp only [Result.andThen_ok, run_size hs, Sem.run_pure]

theorem op_slL {t e : TypeId} {sz : Nat} {x : Operand} {x' : Rf} {lo hi mx : Option Operand} {lo' hi' mx' : Option Rf} (ho : o.op = .slice t x lo hi mx) (h0 : P.underlying t = some (.slice e)) (hs : cSize P e = some sz) (hx' : cRef x = some x')
    (h1 : oref lo = some lo') (h2 : oref hi = some hi') (h3 : oref mx = some mx') (hmx : mx.isSome = true → hi.isSome = true)
    (hx : xop ρ (.slL sz x' lo' hi' mx') h = .ok nx h') (hρ : RRef Θ G ρ ρc) (r : RH P Θ G h w) : OpOK P Θ G h w nx h' ((execOp ρc o).run P w) := by
  have hv := hρ _ _ hx'
  simp only [xop] at hx
  split at hx
  · -- nil
    rename_i e0
    split at hx
    · rename_i e1 e2 e3
      obtain ⟨rfl, rfl⟩ := ok_inj hx
      have hp : ρc x = .slice none 0 0 := by rw [e0] at hv; generalize ρc x = q at hv; cases hv; rfl
      have hrun := run_sliceL hρ ho h0 hs hp h1 h2 h3 hmx e1 e2 e3 w
      simp at hrun
      exact .val r .nsl hrun
    · cases hx
  · -- exact
    rename_i id off len c e0
    split at hx
    · rename_i m e1
      split at hx
      · rename_i b e2
        split at hx
        · rename_i a e3
          obtain ⟨L, hL, hp⟩ : ∃ L, G id = some L ∧ ρc x = .slice (some (L.at off)) len c := by
            rw [e0] at hv; generalize ρc x = q at hv; cases hv with | sle _ _ _ hL => exact ⟨_, hL, rfl⟩
          have hrun := run_sliceL hρ ho h0 hs hp h1 h2 h3 hmx e1 e2 e3 w
          split at hx
          · rename_i hq
            have hq' : a = m := Nat.eq_of_beq_eq_true hq
            split at hx
            · rename_i hbm
              have hbm' : b = m := Nat.eq_of_beq_eq_true hbm
              obtain ⟨rfl, rfl⟩ := ok_inj hx
              rw [if_pos hq'.symm, show b - a = 0 by omega, show m - a = 0 by omega] at hrun
              exact .val r (.sle off 0 0 hL) hrun
            · cases hx
          · rename_i hq
            have hq' : m ≠ a := fun e => by subst e; simp at hq
            rw [natK_eq, natK_eq, natK_eq] at hx
            obtain ⟨rfl, rfl⟩ := ok_inj hx
            rw [if_neg hq', Option.map_some, Loc.at_add] at hrun
            exact .val r (.sle _ _ _ hL) hrun
        · cases hx
      · cases hx
    · cases hx
  · -- to the block's end
    rename_i id off len es e0
    have hform : ∃ L c, G id = some L ∧ ρc x = .slice (some (L.at off)) len c ∧ 0 < es ∧ c * es + off = L.size := by
      rw [e0] at hv; generalize ρc x = q at hv; cases hv with | slt _ _ _ _ hL hz hc => exact ⟨_, _, hL, rfl, hz, hc⟩
    obtain ⟨L, c, hL, hp, hz, hc⟩ := hform
    split at hx
    · rename_i n _ _ _ _ _ em hg hes
      have hes' : es = sz := Nat.eq_of_beq_eq_true hes
      subst hes'
      obtain ⟨L', cs, ty, fr, hL', _, rc⟩ := r.cells hg
      rw [hL] at hL'; cases hL'
      have hk := rc.known
      split at hx
      · rename_i _ hle
        have hle' := Nat.le_of_ble_eq_true hle
        have hq : (n - off) / es ≤ c := by
          have h1 : n - off ≤ c * es := by omega
          calc (n - off) / es ≤ (c * es) / es := Nat.div_le_div_right h1
            _ = c := Nat.mul_div_cancel _ hz
        have hdm : (n - off) / es * es ≤ n - off := Nat.div_mul_le_self _ _
        split at hx
        · rename_i b e2
          split at hx
          · rename_i a e3
            have hab := bnd_le e3 (Nat.zero_le _)
            have hbn : off + b * es ≤ n := by
              rcases bnd_or e2 with rfl | hb
              · exact hle'
              · have : b * es ≤ (n - off) / es * es := Nat.mul_le_mul_right _ hb
                have h2 : off ≤ n := by
                  have : off ≤ off + len * es := Nat.le_add_right _ _
                  omega
                omega
            have hrun := run_sliceL hρ ho h0 hs hp h1 h2 h3 hmx (m := c) (by rw [em]; rfl) (bnd_mono e2 hq) e3 w
            split at hx
            · rename_i hlt
              have hlt' : off + a * es < n := by simpa using hlt
              rw [natK_eq, natK_eq] at hx
              obtain ⟨rfl, rfl⟩ := ok_inj hx
              have hac : a < c := by
                rcases Nat.lt_or_ge a c with h | h
                · exact h
                · have : c * es ≤ a * es := Nat.mul_le_mul_right _ h
                  omega
              rw [if_neg (by omega), Option.map_some, Loc.at_add] at hrun
              refine .val r (.slt _ _ _ _ hL hz ?_) hrun
              have : a * es ≤ c * es := Nat.mul_le_mul_right _ (by omega)
              rw [Nat.sub_mul]; omega
            · rename_i hlt
              have hlt' : ¬ off + a * es < n := fun hl => by
                have : Nat.blt (off + a * es) n = true := Nat.ble_eq_true_of_le hl
                rw [this] at hlt; cases hlt
              obtain ⟨rfl, rfl⟩ := ok_inj hx
              have hba : b = a := by
                rcases Nat.lt_or_ge a b with h | h
                · have : (a + 1) * es ≤ b * es := Nat.mul_le_mul_right _ h
                  rw [Nat.add_mul] at this
                  omega
                · omega
              rw [show b - a = 0 by omega] at hrun
              refine .val (v := .slice (some (if c = a then L.at off else (L.at off).add (a * es))) 0 (c - a)) r (.zs _ _) ?_
              rw [hrun]
              split <;> rfl
          · cases hx
        · cases hx
      · cases hx
    · rename_i k m n _ _ _ _ _ em hg hes
      have hes' : es = sz := Nat.eq_of_beq_eq_true hes
      subst hes'
      obtain ⟨L', cs, ty, fr, hL', _, rc⟩ := r.cells hg
      rw [hL] at hL'; cases hL'
      have hk := rc.known
      split at hx
      · rename_i _ hle
        have hle' := Nat.le_of_ble_eq_true hle
        have hmc : m ≤ c := by
          rcases Nat.lt_or_ge c m with h | h
          · have : (c + 1) * es ≤ m * es := Nat.mul_le_mul_right _ h
            rw [Nat.add_mul] at this
            omega
          · exact h
        split at hx
        · rename_i b e2
          split at hx
          · rename_i a e3
            have hrun := run_sliceL hρ ho h0 hs hp h1 h2 h3 hmx (m := m) (by rw [em]; unfold bnd; simp only [Nat.ble_eq_true_of_le hmc]) e2 e3 w
            split at hx
            · rename_i hlt
              have hlt' : a < m := by simpa using hlt
              rw [natK_eq, natK_eq, natK_eq] at hx
              obtain ⟨rfl, rfl⟩ := ok_inj hx
              rw [if_neg (by omega), Option.map_some, Loc.at_add] at hrun
              exact .val r (.sle _ _ _ hL) hrun
            · cases hx
          · cases hx
        · cases hx
      · cases hx
    · cases hx
  · cases hx

end
end Go.Proofs.YtmlfcopllfdjfaaGreat.Am
