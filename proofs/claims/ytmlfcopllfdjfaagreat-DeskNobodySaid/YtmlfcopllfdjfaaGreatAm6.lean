/- An abstract machine for the program's code, and that it is sound: part Am6. -/
import Derived.Test.YtmlfcopllfdjfaaGreatAm5
import Derived.Laws.Tables
import Derived.Laws.Build
namespace Go.Proofs.YtmlfcopllfdjfaaGreat.Am
variable {P : Program} {Θ : Th} {G : Gm}

section
variable {h h' : AH} {w : World} {nx : Nx} {ρ : Rf → AV} {ρc : Operand → Value} {o : Oper}

theorem cRefs_sound (hρ : RRef Θ G ρ ρc) : ∀ {l : List Operand} {r : List Rf}, cRefs l = some r → RL Θ G (refs ρ r) (l.map ρc)
  | [], r, h => by simp only [cRefs] at h; cases h; exact RL.nil
  | x :: l, r, h => by
    simp only [cRefs] at h
    split at h
    · rename_i y r' h1 h2; cases h; exact RL.cons (hρ _ _ h1) (cRefs_sound hρ h2)
    · cases h

/-! ### Structs and rows that are built -/

theorem foldl_cwrite : ∀ (vs : List Value) (cs : Array Value) (off k : Nat), (vs.zipIdx k).foldl (fun cs x => cs.setIfInBounds (off + x.2) x.1) cs = cwrite cs (off + k) vs
  | [], cs, off, k => rfl
  | v :: vs, cs, off, k => by simp only [List.zipIdx_cons, List.foldl_cons, cwrite, foldl_cwrite vs, Nat.add_assoc]

theorem RL.write {l a : List AV} {cs : Array Value} {vs : List Value} {off : Nat} (hl : RL Θ G l cs.toList) (ha : RL Θ G a vs) (hle : off + a.length ≤ l.length) :
    RL Θ G (l.take off ++ a ++ l.drop (off + a.length)) (cwrite cs off vs).toList := by
  have h1 : l.length = cs.size := by simpa using hl.1
  have h2 : a.length = vs.length := ha.1
  refine ⟨by simp [cwrite_size]; omega, fun i x y hx hy => ?_⟩
  have hy' : (cwrite cs off vs)[i]? = some y := by simpa using hy
  rw [cwrite_get _ _ _ _ (by omega)] at hy'
  by_cases c1 : i < off
  · rw [if_neg (by omega)] at hy'
    rw [List.append_assoc, List.getElem?_append_left (by simp; omega), List.getElem?_take, if_pos c1] at hx
    exact hl.2 i x y hx (by simpa using hy')
  · by_cases c2 : i < off + a.length
    · rw [if_pos (by omega)] at hy'
      rw [List.append_assoc, List.getElem?_append_right (by simp; omega), List.getElem?_append_left (by simp; omega)] at hx
      have e : i - (l.take off).length = i - off := by simp; omega
      rw [e] at hx
      exact ha.2 _ x y hx hy'
    · rw [if_neg (by omega)] at hy'
      rw [List.getElem?_append_right (by simp; omega), List.getElem?_drop] at hx
      have e : off + a.length + (i - (l.take off ++ a).length) = i := by simp; omega
      rw [e] at hx
      exact hl.2 i x y hx (by simpa using hy')

theorem fill_sound (hΘ : Thin Θ) (hρ : RRef Θ G ρ ρc) {place : Nat → Option (Nat × Nat)} : ∀ {ps : List (Nat × Operand)} {qs : List (Nat × Nat × Rf)} {l out : List AV} {cs : Array Value}, cParts place ps = some qs →
    RL Θ G l cs.toList → afill l (parts3 ρ qs) = some out → ∃ cs', Instr.fill place cs (ps.map fun (i, x) => (i, ρc x)) = some cs' ∧ RL Θ G out cs'.toList
  | [], qs, l, out, cs, hc, hl, ha => by
    simp only [cParts] at hc; cases hc
    simp only [parts3, afill] at ha; cases ha
    exact ⟨cs, rfl, hl⟩
  | (i, x) :: ps, qs, l, out, cs, hc, hl, ha => by
    simp only [cParts] at hc
    split at hc
    · rename_i off sz y qs' h1 h2 h3
      cases hc
      simp only [parts3, afill] at ha
      split at ha
      · rename_i e1 e2
        rw [listK_eq] at ha
        have hv := (hρ _ _ h2).cells hΘ
        have hlen : (ρ y).cells.length = sz := Nat.eq_of_beq_eq_true e1
        have hle := Nat.le_of_ble_eq_true e2
        have hlc : l.length = cs.size := by simpa using hl.1
        have hvl : (ρ y).cells.length = (ρc x).cells.size := by simpa using hv.1
        have hw := hl.write hv (off := off) (by omega)
        rw [hlen] at hw
        obtain ⟨cs', hf, hr⟩ := fill_sound hΘ hρ h3 hw ha
        refine ⟨cs', ?_, hr⟩
        simp only [List.map_cons, Instr.fill, h1]
        have hn : ¬ ((ρc x).cells.size ≠ sz || decide (off + (ρc x).cells.size > cs.size)) = true := by simp; omega
        have hfold : (ρc x).cells.zipIdx.foldl (fun cs (x : Value × Nat) => cs.setIfInBounds (off + x.2) x.1) cs = cwrite cs off (ρc x).cells.toList := by
          rw [← Array.foldl_toList, Array.toList_zipIdx, foldl_cwrite]; rfl
        rw [if_neg (by simpa using hn)]
        rw [← hf, ← hfold]
      · cases ha
    · cases hc

theorem op_build (hΘ : Thin Θ) {t : TypeId} {ps : Array (Nat × Operand)} {z : List AV} {qs : List (Nat × Nat × Rf)} (ho : o.op = .build t ps) (h1 : cZeroCells P t = some z)
    (h2 : (∃ fs pl, P.underlying t = some (.struct fs) ∧ fs.toList.mapM (fun f => (P.info? f.type).map fun i => (f.offset, i.size)) = some pl ∧ cParts (fun i => pl[i]?) ps.toList = some qs) ∨
      (∃ n e ie, P.underlying t = some (.array n e) ∧ P.info? e = some ie ∧ cParts (fun i => some (i * ie.size, ie.size)) ps.toList = some qs))
    (hx : xop ρ (.build z qs) h = .ok nx h') (hρ : RRef Θ G ρ ρc) (r : RH P Θ G h w) : OpOK P Θ G h w nx h' ((execOp ρc o).run P w) := by
  simp only [xop] at hx
  split at hx
  · rename_i l hl
    obtain ⟨rfl, rfl⟩ := ok_inj hx
    unfold cZeroCells at h1
    cases hz : cZero P t with
    | none => rw [hz] at h1; cases h1
    | some za =>
      rw [hz] at h1; cases h1
      obtain ⟨it, zv, hi, hzv, hr, _⟩ := cZero_sound (Θ := Θ) (G := G) hz
      have hcells := hr.cells hΘ
      have key : ∃ cs, P.built t (ps.map fun (i, x) => (i, ρc x)).toList = some cs ∧ RL Θ G l cs.toList := by
        rcases h2 with ⟨fs, pl, hu, hm, hp⟩ | ⟨n, e, ie, hu, he, hp⟩
        · obtain ⟨cs, hf, hr⟩ := fill_sound hΘ hρ hp hcells hl
          refine ⟨cs, ?_, hr⟩
          simp only [Program.built, hi, hu, hzv, hm]
          rw [Array.toList_map]
          simpa using hf
        · obtain ⟨cs, hf, hr⟩ := fill_sound hΘ hρ hp hcells hl
          refine ⟨cs, ?_, hr⟩
          simp only [Program.built, hi, hu, hzv, he]
          rw [Array.toList_map]
          exact hf
      obtain ⟨cs, hb, hr⟩ := key
      exact .val r (RL.ag_iff.2 hr) (by simp only [execOp, ho, Sem.run_bind, run_build w t _ cs hb, Result.andThen_ok]; rfl)
  · cases hx

theorem repl_length : ∀ (n : Nat) (z : List AV), (repl n z).length = n * z.length
  | 0, z => by simp [repl]
  | n + 1, z => by simp [repl, repl_length n z, Nat.add_mul]; omega

theorem repl_get : ∀ (n : Nat) (z : List AV) (i : Nat), (repl n z)[i]? = if i < n * z.length then z[i % z.length]? else none
  | 0, z, i => by simp [repl]
  | n + 1, z, i => by
    simp only [repl]
    by_cases c : i < z.length
    · rw [List.getElem?_append_left c, Nat.mod_eq_of_lt c, if_pos (by rw [Nat.add_mul]; omega)]
    · rw [List.getElem?_append_right (by omega), repl_get n z]
      have hm : (i - z.length) % z.length = i % z.length := by
        conv => rhs; rw [show i = (i - z.length) + z.length by omega, Nat.add_mod_right]
      rw [hm]
      by_cases d : i - z.length < n * z.length
      · rw [if_pos d, if_pos (by rw [Nat.add_mul]; omega)]
      · rw [if_neg d, if_neg (by rw [Nat.add_mul]; omega)]

theorem RL.repl {z : List AV} {zc : Array Value} (hz : RL Θ G z zc.toList) (n m : Nat) (hm : m = n * zc.size) :
    RL Θ G (repl n z) ((Array.range m).map fun i => zc[i % zc.size]!).toList := by
  have hlen : z.length = zc.size := by simpa using hz.1
  refine ⟨by simp [repl_length, hlen, hm], fun i x y hx hy => ?_⟩
  rw [repl_get] at hx
  split at hx
  · rename_i hlt
    rw [hlen] at hx hlt
    have hpos : 0 < zc.size := by
      rcases Nat.eq_zero_or_pos zc.size with h0 | h0
      · rw [h0] at hlt; simp at hlt
      · exact h0
    have hmod : i % zc.size < zc.size := Nat.mod_lt _ hpos
    simp [hm, hlt] at hy
    subst hy
    exact hz.2 _ x _ hx (by simp [hmod])
  · cases hx

theorem cZeroOf_inv {t : TypeId} {z : List AV} (h : cZeroOf P t = some z) : cZeroCells P t = some z ∧ cSize P t = some z.length ∧ 0 < z.length := by
  unfold cZeroOf at h
  split at h
  · rename_i z' n h1 h2
    split at h
    · rename_i hn
      cases h
      unfold cSize1 at h2
      split at h2
      · rename_i m hm
        cases h2
        exact ⟨h1, by rw [hn]; exact hm, by omega⟩
      · cases h2
    · cases h
  · cases h

theorem cSize1_inv {t : TypeId} {n : Nat} (h : cSize1 P t = some n) : cSize P t = some n ∧ 0 < n := by
  unfold cSize1 at h
  split at h
  · rename_i m hm; cases h; exact ⟨hm, by omega⟩
  · cases h

theorem op_bsl (hΘ : Thin Θ) {t e : TypeId} {len : Nat} {ps : Array (Nat × Operand)} {z : List AV} {qs : List (Nat × Nat × Rf)} (ho : o.op = .buildSlice t len ps) (h0 : P.underlying t = some (.slice e)) (h1 : cZeroOf P e = some z)
    (h2 : ¬ len * z.length > 2 ^ 24) (h3 : cParts (fun i => some (i * z.length, z.length)) ps.toList = some qs)
    (hx : xop ρ (.bsl len z qs) h = .ok nx h') (hρ : RRef Θ G ρ ρc) (r : RH P Θ G h w) : OpOK P Θ G h w nx h' ((execOp ρc o).run P w) := by
  obtain ⟨z1, z2, z3⟩ := cZeroOf_inv h1
  obtain ⟨zv, hz, hzr⟩ := cZeroCells_sound (Θ := Θ) (G := G) hΘ z1
  have hzl : z.length = zv.cells.size := by simpa using hz.1
  simp only [xop] at hx
  split at hx
  · rename_i l hl
    rw [hnew_eq] at hx
    obtain ⟨rfl, rfl⟩ := ok_inj hx
    have hcells : ∃ zc : Array Value, ((len * z.length = 0 ∧ zc = #[]) ∨ (¬ len * z.length = 0 ∧ zc = zv.cells)) ∧ RL Θ G (repl len z) ((Array.range (len * z.length)).map (fun i => zc[i % zc.size]!)).toList := by
      by_cases c : len * z.length = 0
      · have : len = 0 := by
          rcases Nat.mul_eq_zero.1 c with h | h
          · exact h
          · omega
        subst this
        exact ⟨#[], .inl ⟨c, rfl⟩, by simp [repl]; exact RL.nil⟩
      · exact ⟨zv.cells, .inr ⟨c, rfl⟩, hz.repl len _ (by rw [hzl])⟩
    obtain ⟨zc, hc1, hc2⟩ := hcells
    obtain ⟨cs, hf, hr⟩ := fill_sound hΘ hρ h3 hc2 hl
    refine ⟨_, _, _, ?_, Next.newRow r e hr, .inl ⟨_, rfl, .sle 0 len len (Gm.put_same _ _ _)⟩⟩
    have hb : (Instr.buildSlice t len (ps.map fun (i, x) => (i, ρc x))).run P w = .ok (.slice (some ⟨w.heap.size, 0, none⟩) len len) (w.alloc (.cells cs e)) := by
      unfold Instr.buildSlice
      simp only [Sem.run_bind, run_underlying h0, Result.andThen_ok, run_size z2]
      rw [if_neg h2]
      have hf' : Instr.fill (fun i => some (i * z.length, z.length)) ((Array.range (len * z.length)).map (fun i => zc[i % zc.size]!)) (ps.map fun (i, x) => (i, ρc x)).toList = some cs := by
        rw [Array.toList_map]; exact hf
      rcases hc1 with ⟨c, rfl⟩ | ⟨c, rfl⟩
      · rw [if_pos c]
        simp only [Sem.run_bind, Sem.run_pure, Result.andThen_ok]
        rw [hf']
        simp [newRow]
      · rw [if_neg c]
        simp only [Sem.run_bind, Sem.run_pure, hzr, Result.andThen_ok]
        rw [hf']
        simp [newRow]
    simp only [execOp, ho, Sem.run_bind, hb, Result.andThen_ok]
    simp [Loc.at]
  · cases hx

/-! ### Functions, interfaces, maps that are made -/

theorem op_mkf {f : FuncId} {a b : Array Operand} {a' b' : List Rf} (ho : o.op = .makeFunc (.func f) a b) (h1 : cRefs a.toList = some a') (h2 : cRefs b.toList = some b')
    (hx : xop ρ (.mkf f a' b') h = .ok nx h') (hρ : RRef Θ G ρ ρc) (r : RH P Θ G h w) : OpOK P Θ G h w nx h' ((execOp ρc o).run P w) := by
  simp only [xop, listK_eq] at hx
  obtain ⟨rfl, rfl⟩ := ok_inj hx
  refine .val r (RL.f_iff.2 ⟨.func f, ?_, ?_⟩) (by simp only [execOp, ho, Instr.makeFunc]; rfl)
  · rw [Array.toList_map]; exact cRefs_sound hρ h1
  · rw [Array.toList_map]; exact cRefs_sound hρ h2

theorem op_mki {t : TypeId} {d : TypeDesc} {x : Operand} {y : Rf} (ho : o.op = .makeInterface t x) (h1 : P.underlying t = some d) (h2 : ∀ ms, d ≠ .interface ms) (h3 : cRef x = some y)
    (hx : xop ρ (.mki t y) h = .ok nx h') (hρ : RRef Θ G ρ ρc) (r : RH P Θ G h w) : OpOK P Θ G h w nx h' ((execOp ρc o).run P w) := by
  obtain ⟨rfl, rfl⟩ := ok_inj hx
  refine .val r (.ifc t (hρ _ _ h3)) ?_
  have : (Instr.makeInterface t (ρc x)).run P w = .ok (.iface t (ρc x)) w := run_makeInterface w t _ (by
    unfold Program.concrete; rw [h1]; cases d <;> first | rfl | exact absurd rfl (h2 _))
  simp only [execOp, ho, Sem.run_bind, this, Result.andThen_ok]; rfl

theorem op_mkm {t : TypeId} (ho : o.op = .makeMap t none) (hx : xop ρ .mkm h = .ok nx h') (r : RH P Θ G h w) : OpOK P Θ G h w nx h' ((execOp ρc o).run P w) := by
  simp only [xop, hnew_eq] at hx
  obtain ⟨rfl, rfl⟩ := ok_inj hx
  refine ⟨_, _, _, ?_, Next.new r (.map [] 0) (.map #[] 0) 0 ⟨#[], rfl, rfl, fun i e c he => by simp at he⟩, .inl ⟨_, rfl, .m (Gm.put_same _ _ _)⟩⟩
  simp [execOp, ho, Instr.makeMap]

/-! ### Conversions -/

theorem op_cvi {s d : TypeId} {x : Operand} {y : Rf} {k k' : IntKind} (ho : o.op = .convert s d x) (h1 : P.underlying s = some (.int k')) (h2 : P.underlying d = some (.int k)) (h3 : cRef x = some y)
    (hx : xop ρ (.cvi k y) h = .ok nx h') (hρ : RRef Θ G ρ ρc) (r : RH P Θ G h w) : OpOK P Θ G h w nx h' ((execOp ρc o).run P w) := by
  have hv := hρ _ _ h3
  simp only [xop] at hx
  split at hx
  · rename_i k0 n e
    rw [vi_eq] at hx
    obtain ⟨rfl, rfl⟩ := ok_inj hx
    rw [e] at hv
    generalize hq : ρc x = q at hv
    cases hv
    refine .val r (.i _ _) ?_
    simp [execOp, ho, hq, convert, run_underlying h1, run_underlying h2, Conv.intToInt]
  · cases hx

theorem op_cvid {s d : TypeId} {x : Operand} {y : Rf} (ho : o.op = .convert s d x) (h1 : P.underlying s = some .string) (h2 : P.underlying d = some .string) (h3 : cRef x = some y)
    (hx : xop ρ (.cvid y) h = .ok nx h') (hρ : RRef Θ G ρ ρc) (r : RH P Θ G h w) : OpOK P Θ G h w nx h' ((execOp ρc o).run P w) := by
  have hv := hρ _ _ h3
  simp only [xop] at hx
  split at hx
  · rename_i l e
    obtain ⟨rfl, rfl⟩ := ok_inj hx
    rw [e] at hv
    refine .val r hv ?_
    generalize hq : ρc x = q at hv
    cases hv
    simp [execOp, ho, hq, convert, run_underlying h1, run_underlying h2]
  · cases hx

theorem utf1_sound {n : Int} {l : List Nat} (h : utf1 n = some l) : l = (Utf8.encode n).data.toList.map UInt8.toNat := by
  unfold utf1 at h
  split at h
  · rename_i m
    split at h
    · rename_i hb
      have hm : m < 128 := by simpa using hb
      cases h
      have hv : Utf8.valid (Int.ofNat m) = true := by
        unfold Utf8.valid; simp; omega
      have : (Int.ofNat m).toNat = m := rfl
      unfold Utf8.encode
      simp only [hv, if_true, this]
      rw [if_pos hm]
      simp; omega
    · cases h
  · cases h

theorem op_cvis {s d : TypeId} {x : Operand} {y : Rf} {k : IntKind} (ho : o.op = .convert s d x) (h1 : P.underlying s = some (.int k)) (h2 : P.underlying d = some .string) (h3 : cRef x = some y)
    (hx : xop ρ (.cvis y) h = .ok nx h') (hρ : RRef Θ G ρ ρc) (r : RH P Θ G h w) : OpOK P Θ G h w nx h' ((execOp ρc o).run P w) := by
  have hv := hρ _ _ h3
  simp only [xop] at hx
  split at hx
  · rename_i k0 n e
    split at hx
    · rename_i l hl
      rw [natsK_eq] at hx
      obtain ⟨rfl, rfl⟩ := ok_inj hx
      rw [utf1_sound hl]
      rw [e] at hv
      generalize hq : ρc x = q at hv
      cases hv
      refine .val r (.s _) ?_
      simp [execOp, ho, hq, convert, run_underlying h1, run_underlying h2, Conv.intToString]
    · cases hx
  · cases hx

/-! ### Indexes and fields -/

theorem ptr_inv {x : Operand} {y : Rf} {id off : Nat} (e : ρ y = .p id off) (hv : RV Θ G (ρ y) (ρc x)) : ∃ L, G id = some L ∧ ρc x = .pointer (some (L.at off)) := by
  rw [e] at hv
  generalize ρc x = q at hv
  cases hv with | p _ hL => exact ⟨_, hL, rfl⟩

theorem int_inv {x : Operand} {y : Rf} {k : IntKind} {n : Int} (e : ρ y = .i k n) (hv : RV Θ G (ρ y) (ρc x)) : ρc x = .int k n := by
  rw [e] at hv
  generalize ρc x = q at hv
  cases hv; rfl

theorem str_inv {x : Operand} {y : Rf} {l : List Nat} (e : ρ y = .s l) (hv : RV Θ G (ρ y) (ρc x)) : ∃ s : ByteArray, ρc x = .string s ∧ l = s.data.toList.map UInt8.toNat := by
  rw [e] at hv
  generalize ρc x = q at hv
  cases hv; exact ⟨_, rfl, rfl⟩

theorem sl_inv {x : Operand} {y : Rf} {id off len : Nat} {c : ACap} (e : ρ y = .sl id off len c) (hv : RV Θ G (ρ y) (ρc x)) : ∃ L cap, G id = some L ∧ ρc x = .slice (some (L.at off)) len cap := by
  rw [e] at hv
  generalize ρc x = q at hv
  cases hv with
  | sle _ _ _ hL => exact ⟨_, _, hL, rfl⟩
  | slt _ _ _ _ hL _ _ => exact ⟨_, _, hL, rfl⟩

theorem ag_inv {x : Operand} {y : Rf} {cs : List AV} (e : ρ y = .ag cs) (hv : RV Θ G (ρ y) (ρc x)) : ∃ vs, ρc x = .agg vs ∧ RL Θ G cs vs.toList := by
  rw [e] at hv
  generalize ρc x = q at hv
  cases hv with | ag a b => exact ⟨_, rfl, RL.ag_iff.1 (.ag a b)⟩

theorem op_iaA {t e : TypeId} {len sz : Nat} {x i : Operand} {x' i' : Rf} (ho : o.op = .indexAddr t x i) (h0 : P.underlying t = some (.array len e)) (h1 : cSize P e = some sz) (h2 : cRef x = some x') (h3 : cRef i = some i')
    (hx : xop ρ (.iaA len sz x' i') h = .ok nx h') (hρ : RRef Θ G ρ ρc) (r : RH P Θ G h w) : OpOK P Θ G h w nx h' ((execOp ρc o).run P w) := by
  simp only [xop] at hx
  split at hx
  · rename_i id off k n e1 e2
    split at hx
    · rename_i hlt
      rw [natK_eq] at hx
      obtain ⟨rfl, rfl⟩ := ok_inj hx
      obtain ⟨L, hL, hp⟩ := ptr_inv e1 (hρ _ _ h2)
      have hi := int_inv e2 (hρ _ _ h3)
      have hn : n < len := by simpa using hlt
      refine .val r (.p _ hL) ?_
      have hc : (0 : Int) ≤ Int.ofNat n ∧ Int.ofNat n < (len : Int) := ⟨Int.natCast_nonneg n, Int.ofNat_lt.2 hn⟩
      simp only [execOp, ho, hp, hi, Instr.indexAt, asIntOf, Sem.run_bind, Sem.run_pure, Result.andThen_ok, run_underlying h0, Instr.sureAddr, if_pos hc, run_size h1, Loc.at_add]
      rfl
    · cases hx
  · cases hx

theorem op_iaL {t e : TypeId} {sz : Nat} {x i : Operand} {x' i' : Rf} (ho : o.op = .indexAddr t x i) (h0 : P.underlying t = some (.slice e)) (h1 : cSize P e = some sz) (h2 : cRef x = some x') (h3 : cRef i = some i')
    (hx : xop ρ (.iaL sz x' i') h = .ok nx h') (hρ : RRef Θ G ρ ρc) (r : RH P Θ G h w) : OpOK P Θ G h w nx h' ((execOp ρc o).run P w) := by
  simp only [xop] at hx
  split at hx
  · rename_i id off len c k n e1 e2
    split at hx
    · rename_i hlt
      rw [natK_eq] at hx
      obtain ⟨rfl, rfl⟩ := ok_inj hx
      obtain ⟨L, cap, hL, hp⟩ := sl_inv e1 (hρ _ _ h2)
      have hi := int_inv e2 (hρ _ _ h3)
      have hn : n < len := by simpa using hlt
      refine .val r (.p _ hL) ?_
      have hc : (0 : Int) ≤ Int.ofNat n ∧ Int.ofNat n < (len : Int) := ⟨Int.natCast_nonneg n, Int.ofNat_lt.2 hn⟩
      simp only [execOp, ho, hp, hi, Instr.indexAt, asIntOf, Sem.run_bind, Sem.run_pure, Result.andThen_ok, run_underlying h0, if_pos hc, run_size h1, Loc.at_add]
      rfl
    · cases hx
  · cases hx

theorem op_ixS {t : TypeId} {x i : Operand} {x' i' : Rf} (ho : o.op = .index t x i) (h0 : P.underlying t = some .string) (h2 : cRef x = some x') (h3 : cRef i = some i')
    (hx : xop ρ (.ixS x' i') h = .ok nx h') (hρ : RRef Θ G ρ ρc) (r : RH P Θ G h w) : OpOK P Θ G h w nx h' ((execOp ρc o).run P w) := by
  simp only [xop] at hx
  split at hx
  · rename_i l k n e1 e2
    split at hx
    · rename_i b hb
      rw [natK_eq] at hx
      obtain ⟨rfl, rfl⟩ := ok_inj hx
      obtain ⟨s, hp, rfl⟩ := str_inv e1 (hρ _ _ h2)
      have hi := int_inv e2 (hρ _ _ h3)
      rw [List.head?_drop, List.getElem?_map] at hb
      cases hc : s.data.toList[n]? with
      | none => rw [hc] at hb; cases hb
      | some c =>
        rw [hc] at hb; cases hb
        have hs : s[n]? = some c := by
          have : s.data[n]? = some c := by simpa using hc
          rw [Array.getElem?_eq_some_iff] at this
          obtain ⟨hlt, hv⟩ := this
          have hlt' : n < s.size := hlt
          rw [getElem?_pos s n hlt']
          exact congrArg some hv
        refine .val r (.i _ _) ?_
        have hc0 : (0 : Int) ≤ Int.ofNat n := Int.natCast_nonneg n
        have ht : (Int.ofNat n).toNat = n := rfl
        simp only [execOp, ho, hp, hi, Instr.index, asIntOf, Sem.run_bind, Sem.run_pure, Result.andThen_ok, run_underlying h0, if_pos hc0, ht, hs]
    · cases hx
  · cases hx

theorem op_ixA {t e : TypeId} {len sz : Nat} {agg : Bool} {x i : Operand} {x' i' : Rf} (ho : o.op = .index t x i) (h0 : P.underlying t = some (.array len e)) (h1 : cSize P e = some sz) (h1' : cAgg P e = some agg) (h2 : cRef x = some x') (h3 : cRef i = some i')
    (hx : xop ρ (.ixA len sz agg x' i') h = .ok nx h') (hρ : RRef Θ G ρ ρc) (r : RH P Θ G h w) : OpOK P Θ G h w nx h' ((execOp ρc o).run P w) := by
  simp only [xop] at hx
  split at hx
  · rename_i cs k n e1 e2
    split at hx
    · rename_i hlt
      obtain ⟨a, ha, rfl, rfl⟩ := toNx_inv hx
      obtain ⟨vs, hp, hl⟩ := ag_inv e1 (hρ _ _ h2)
      have hi := int_inv e2 (hρ _ _ h3)
      have hn : n < len := by simpa using hlt
      obtain ⟨v, hv, hr⟩ := apart_sound h1' h1 ha hl
      have hc : (0 : Int) ≤ Int.ofNat n ∧ Int.ofNat n < (len : Int) := ⟨Int.natCast_nonneg n, Int.ofNat_lt.2 hn⟩
      have ht : (Int.ofNat n).toNat = n := rfl
      refine .val r hv ?_
      simp only [execOp, ho, hp, hi, Instr.index, asIntOf, Sem.run_bind, Sem.run_pure, Result.andThen_ok, run_underlying h0, if_pos hc, run_size h1, ht, hr]
    · cases hx
  · cases hx

theorem op_fld {t : TypeId} {fs : Array Field} {f : Field} {sz i : Nat} {agg : Bool} {x : Operand} {x' : Rf} (ho : o.op = .field t x i) (h0 : P.underlying t = some (.struct fs)) (hf : fs[i]? = some f) (h1 : cSize P f.type = some sz) (h1' : cAgg P f.type = some agg) (h2 : cRef x = some x')
    (hx : xop ρ (.fld f.offset sz agg x') h = .ok nx h') (hρ : RRef Θ G ρ ρc) (r : RH P Θ G h w) : OpOK P Θ G h w nx h' ((execOp ρc o).run P w) := by
  simp only [xop] at hx
  split at hx
  · rename_i cs e1
    obtain ⟨a, ha, rfl, rfl⟩ := toNx_inv hx
    obtain ⟨vs, hp, hl⟩ := ag_inv e1 (hρ _ _ h2)
    obtain ⟨v, hv, hr⟩ := apart_sound h1' h1 ha hl
    refine .val r hv ?_
    simp only [execOp, ho, hp, Instr.field, asAgg, Sem.run_bind, Sem.run_pure, Result.andThen_ok, run_underlying h0, hf, hr]
  · cases hx

end
end Go.Proofs.YtmlfcopllfdjfaaGreat.Am
