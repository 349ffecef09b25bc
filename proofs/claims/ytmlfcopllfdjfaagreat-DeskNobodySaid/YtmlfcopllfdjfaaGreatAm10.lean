/- An abstract machine for the program's code, and that it is sound: part Am10. -/
import Derived.Test.YtmlfcopllfdjfaaGreatAm9
namespace Go.Proofs.YtmlfcopllfdjfaaGreat.Am
variable {P : Program} {Θ : Th} {G : Gm}

section
variable {h h' : AH} {w : World} {nx : Nx} {ρ : Rf → AV} {ρc : Operand → Value} {o : Oper}

theorem execOp_v {s : Sem Value} {v : Value} {w' : World} {x : Sem Go.Next} (e : x = (do pure (.value (← s)))) (hr : s.run P w = .ok v w') : x.run P w = .ok (.value v) w' := by rw [e]; exact run_v hr

/-! ### make -/

theorem op_mks (hΘ : Thin Θ) {t e : TypeId} {z : List AV} {bytes : Nat} {l c : Operand} {l' c' : Rf} (ho : o.op = .makeSlice t l c) (hu : P.underlying t = some (.slice e)) (h1 : cZeroOf P e = some z) (h2 : cBytes P e = some bytes) (hl : cRef l = some l') (hc : cRef c = some c')
    (hx : xop ρ (.mks z.length bytes z l' c') h = .ok nx h') (hρ : RRef Θ G ρ ρc) (r : RH P Θ G h w) : OpOK P Θ G h w nx h' ((execOp ρc o).run P w) := by
  obtain ⟨z1, z2, z3⟩ := cZeroOf_inv h1
  obtain ⟨zv, hz, hzr⟩ := cZeroCells_sound (Θ := Θ) (G := G) hΘ z1
  have hzl : z.length = zv.cells.size := by simpa using hz.1
  obtain ⟨ie, hie, hib⟩ : ∃ ie, P.info? e = some ie ∧ ie.bytes = bytes := by
    unfold cBytes at h2
    cases hi : P.info? e with
    | none => rw [hi] at h2; cases h2
    | some i => rw [hi] at h2; exact ⟨i, rfl, Option.some.inj h2⟩
  simp only [xop] at hx
  split at hx
  · rename_i a b e1 e2
    split at hx
    · rename_i k1 k2 k3
      have k1' := Nat.le_of_ble_eq_true k1
      have k2' := Nat.le_of_ble_eq_true k2
      have k3' := Nat.le_of_ble_eq_true k3
      rw [natK_eq, natK_eq, hnew_eq] at hx
      obtain ⟨rfl, rfl⟩ := ok_inj hx
      have i1 := int_inv e1 (hρ _ _ hl)
      have i2 := int_inv e2 (hρ _ _ hc)
      have c1 : ¬ (((decide ((b : Int) < 0) || decide ((bytes : Int) * (b : Int) > 2 ^ 48)) || decide ((a : Int) < 0) || decide ((a : Int) > (b : Int))) = true) := by
        have h3 : (2 : Int) ^ 48 = 281474976710656 := by decide
        have h4 : ((bytes * b : Nat) : Int) ≤ 281474976710656 := by omega
        rw [Int.natCast_mul] at h4
        simp only [h3, Bool.or_eq_true, decide_eq_true_eq, not_or]
        omega
      have hrow : Next P Θ G h w (G.put h.nx ⟨w.heap.size, 0, b * z.length⟩) ⟨h.nx + 1, h.o.set h.nx (.cells (b * z.length) false false z.length z .e)⟩
          (w.alloc (.cells ((Array.range (b * z.length)).map (fun i => zv.cells[i % zv.cells.size]!)) e)) := by
        refine Next.new r _ _ (b * z.length) ⟨_, e, (0, 0), rfl, ?_⟩
        refine ⟨by simp, Nat.le_refl _, fun _ => rfl, fun off v hv => ?_, fun _ off _ => by simp⟩
        rw [cget_eq] at hv
        split at hv
        · rename_i hlt
          simp only [Tr.get] at hv
          have hv' : z[off % z.length]? = some v := by
            cases z with
            | nil => simp at z3
            | cons q z => simp only at hv; rw [agetI_eq] at hv; exact hv
          obtain ⟨cv, d1, d2⟩ := hz.get hv'
          refine ⟨cv, ?_, d2.ext (Ext.put r _)⟩
          have d1' : zv.cells[off % zv.cells.size]? = some cv := by rw [← hzl]; simpa using d1
          have hlt' : off % zv.cells.size < zv.cells.size := Nat.mod_lt _ (by omega)
          have hb : zv.cells[off % zv.cells.size]! = cv := by rw [getElem!_pos zv.cells _ hlt']; rw [Array.getElem?_eq_getElem hlt'] at d1'; exact Option.some.inj d1'
          simp [hlt, hb]
        · cases hv
      refine ⟨_, _, _, ?_, hrow, .inl ⟨_, rfl, .sle 0 a b (Gm.put_same _ _ _)⟩⟩
      refine execOp_v (s := Instr.makeSlice t (ρc l) (ρc c)) (by simp only [execOp, ho]) ?_
      rw [i1, i2]
      unfold Instr.makeSlice
      simp only [Sem.run_bind, run_underlying hu, Result.andThen_ok, asInt, asIntOf, Sem.run_pure, run_info hie, wrap_small (show a ≤ 4611686018427387904 by omega), wrap_small k3', hib]
      rw [if_neg c1]
      simp only [Sem.run_bind, run_askRoom, Result.andThen_ok, run_size z2, Int.toNat_natCast]
      by_cases c0 : b * z.length = 0
      · rw [if_pos c0]
        simp only [newRow, c0, Loc.at, Sem.run_bind, Sem.run_pure, Result.andThen_ok, run_newObj]
        rw [show Array.range 0 = #[] from rfl, Array.map_empty, Array.map_empty]
        rfl
      · rw [if_neg c0]
        simp [newRow, hzr, Loc.at]
    · cases hx
  · cases hx

/-! ### texts and bytes -/

theorem freeze_alloc (w : World) (cs : Array Value) (e : TypeId) (n : Nat) : (w.alloc (.cells cs e)).freeze { block := w.heap.size, off := n } 1 = w.alloc (.cells cs e (n, n + 1)) := by
  unfold World.freeze World.alloc
  rw [if_neg (by omega)]
  simp only
  congr 1
  apply Array.ext
  · simp
  · intro i h1 h2
    by_cases e : i = w.heap.size
    · subst e; simp [Array.getElem_modify]
    · have : i < w.heap.size := by simp at h2; omega
      rw [Array.getElem_modify, if_neg (Ne.symm e), Array.getElem_push_lt this, Array.getElem_push_lt this]

theorem op_cvsb {s d e : TypeId} {x : Operand} {y : Rf} (ho : o.op = .convert s d x) (h1 : P.underlying s = some .string) (h2 : P.underlying d = some (.slice e)) (h2' : P.underlying e = some (.int .u8)) (h3 : cRef x = some y)
    (hx : xop ρ (.cvsb y) h = .ok nx h') (hρ : RRef Θ G ρ ρc) (r : RH P Θ G h w) : OpOK P Θ G h w nx h' ((execOp ρc o).run P w) := by
  simp only [xop] at hx
  split at hx
  · rename_i l e1
    split at hx
    · rw [hnew_eq] at hx
      obtain ⟨rfl, rfl⟩ := ok_inj hx
      obtain ⟨b, hp, rfl⟩ := str_inv e1 (hρ _ _ h3)
      have hlen : (b.data.toList.map UInt8.toNat).length = b.size := by rw [List.length_map]; exact bytes_len b
      obtain ⟨nc, hncd⟩ : ∃ nc, nc = (Question.appendCap b.size 0 e).cut (w.tape w.drawn (.appendCap b.size 0 e)) := ⟨_, rfl⟩
      have hnc : b.size ≤ nc := by rw [hncd]; exact cut_cap _ _ _ _
      have hl : RL Θ G ((b.data.toList.map UInt8.toNat).map fun n => AV.i .u8 (Int.ofNat n)) (b.data.toList.map fun c => Value.int .u8 c.toNat) := RL.bytes _
      have n1 := Next.drew r
      have hcs : ((b.data.map fun c => Value.int .u8 (c.toNat : Int)) ++ Array.replicate (nc - b.size) (Value.int .u8 0)).size = nc := by
        rw [Array.size_append, Array.size_map, Array.size_replicate]
        have : b.data.size = b.size := rfl
        omega
      have n2 : Next P Θ G h w (G.put h.nx ⟨w.heap.size, 0, nc⟩) ⟨h.nx + 1, h.o.set h.nx (.cells (b.data.toList.map UInt8.toNat).length true false (b.data.toList.map UInt8.toNat).length ((b.data.toList.map UInt8.toNat).map fun n => AV.i .u8 (Int.ofNat n)) .e)⟩
          (w.drew.alloc (.cells ((b.data.map fun c => Value.int .u8 (c.toNat : Int)) ++ Array.replicate (nc - b.size) (Value.int .u8 0)) e (nc, nc + 1))) := by
        refine n1.trans (Next.new n1.rh _ _ nc ⟨_, e, (nc, nc + 1), rfl, ?_⟩)
        refine ⟨by rw [hcs]; exact Nat.zero_add _, by rw [hlen]; exact hnc, (fun h => by cases h), fun off v hv => ?_, fun _ off ho => by show ¬ (nc ≤ 0 + off ∧ _); have : off < nc := ho; omega⟩
        have hv' : ((b.data.toList.map UInt8.toNat).map fun n => AV.i .u8 (Int.ofNat n))[off]? = some v := row_get _ off v (by rw [List.length_map]; exact hv)
        obtain ⟨cv, d1, d2⟩ := hl.get hv'
        refine ⟨cv, ?_, d2.ext (Ext.put n1.rh _)⟩
        rw [Nat.zero_add]
        have hlt : off < b.data.size := by
          rcases Nat.lt_or_ge off b.data.size with h | h
          · exact h
          · rw [List.getElem?_eq_none (by simpa using h)] at d1; cases d1
        rw [Array.getElem?_append_left (by simpa using hlt)]
        simpa using d1
      rw [hlen] at n2 ⊢
      refine ⟨_, _, _, ?_, n2, .inl ⟨_, rfl, .slt 0 b.size 1 nc (Gm.put_same _ _ _) (by omega) (by show nc * 1 + 0 = nc; omega)⟩⟩
      refine execOp_v (s := convert s d (ρc x)) (by simp only [execOp, ho]) ?_
      rw [hp]
      unfold convert
      simp only [Sem.run_bind, run_underlying h1, run_underlying h2, run_underlying h2', Result.andThen_ok, Conv.stringToBytes, run_choose, forced_cap, Bool.false_eq_true, if_false, newRow, run_newObj, Sem.run_pure, markStringish, run_shape, World.drew_eq, World.alloc_eq]
      rw [← hncd]
      have hsh : (w.drew.alloc (.cells ((b.data.map fun c => Value.int .u8 (c.toNat : Int)) ++ Array.replicate (nc - b.size) (Value.int .u8 0)) e)).shape? w.drew.heap.size = some (e, nc) := by
        have hg : (w.drew.alloc (.cells ((b.data.map fun c => Value.int .u8 (c.toNat : Int)) ++ Array.replicate (nc - b.size) (Value.int .u8 0)) e)).heap[w.drew.heap.size]? = some (.cells ((b.data.map fun c => Value.int .u8 (c.toNat : Int)) ++ Array.replicate (nc - b.size) (Value.int .u8 0)) e) := by
          show (w.drew.heap.push _)[w.drew.heap.size]? = _
          rw [Array.getElem?_push, if_pos rfl]
        unfold World.shape?
        rw [hg]
        simp only [hcs]
      rw [hsh]
      simp only [run_freeze, Result.andThen_ok]
      rw [freeze_alloc]
      rfl
    · cases hx
  · cases hx

theorem bytesOf_inv : ∀ {l : List AV} {r : List Nat}, bytesOf l = some r → ∀ {vs : List Value}, RL Θ G l vs → ∀ (s : ByteArray) (w : World),
    ∃ s' : ByteArray, s'.data.toList.map UInt8.toNat = s.data.toList.map UInt8.toNat ++ r ∧
      (forIn vs s fun c s => (match c with | .int .u8 n => pure (ForInStep.yield (s.push (UInt8.ofNat n.toNat))) | _ => do { stuck "bytesToString: byte expected"; pure (ForInStep.yield s) } : Sem (ForInStep ByteArray))).run P w = .ok s' w
  | [], r, h, vs, hv, s, w => by
    simp only [bytesOf] at h; cases h
    rw [hv.nil_inv]
    exact ⟨s, by simp, by simp⟩
  | x :: l, r, h, vs, hv, s, w => by
    unfold bytesOf at h
    split at h
    · rename_i e; cases e
    · rename_i n l' e
      cases e
      split at h
      · rename_i r' hb hr
        cases h
        have hn : n < 256 := by simpa using hb
        obtain ⟨c, vs', rfl, hc, hv'⟩ := hv.cons_inv
        cases hc
        obtain ⟨s', h1, h2⟩ := bytesOf_inv hr hv' (s.push (UInt8.ofNat n)) w
        refine ⟨s', ?_, ?_⟩
        · rw [h1]
          have : (s.push (UInt8.ofNat n)).data.toList = s.data.toList ++ [UInt8.ofNat n] := by
            show (s.data.push _).toList = _
            simp
          rw [this]
          simp
          omega
        · rw [List.forIn_cons]
          simp only [Sem.run_bind, Sem.run_pure, Result.andThen_ok]
          exact h2
      · cases h
    · cases h

theorem op_cvbs {s d e : TypeId} {x : Operand} {y : Rf} (ho : o.op = .convert s d x) (h1 : P.underlying s = some (.slice e)) (h2 : P.underlying d = some .string) (h2' : P.underlying e = some (.int .u8)) (h3 : cRef x = some y)
    (hx : xop ρ (.cvbs y) h = .ok nx h') (hρ : RRef Θ G ρ ρc) (r : RH P Θ G h w) : OpOK P Θ G h w nx h' ((execOp ρc o).run P w) := by
  have hv := hρ _ _ h3
  simp only [xop] at hx
  split at hx
  · rename_i e1
    obtain ⟨rfl, rfl⟩ := ok_inj hx
    rw [e1] at hv
    generalize hp : ρc x = q at hv
    cases hv
    refine .val (v := .string .empty) r (.s .empty) ?_
    refine execOp_v (s := convert s d (ρc x)) (by simp only [execOp, ho]) ?_
    rw [hp]
    simp [convert, run_underlying h1, run_underlying h2, run_underlying h2', Conv.bytesToString]
  · rename_i e1
    obtain ⟨rfl, rfl⟩ := ok_inj hx
    rw [e1] at hv
    generalize hp : ρc x = q at hv
    cases hv
    refine .val (v := .string .empty) r (.s .empty) ?_
    refine execOp_v (s := convert s d (ρc x)) (by simp only [execOp, ho]) ?_
    rw [hp]
    simp [convert, run_underlying h1, run_underlying h2, run_underlying h2', Conv.bytesToString, loadCells, loadCellsFrom]
  · rename_i id off len c e1
    split at hx
    · rename_i l hl
      split at hx
      · rename_i bs hbs
        rw [natsK_eq] at hx
        obtain ⟨rfl, rfl⟩ := ok_inj hx
        obtain ⟨L, cap, hL, hp⟩ := sl_inv e1 hv
        obtain ⟨vs, v1, v2, v3, v4⟩ := r.load hl hL
        obtain ⟨s', q1, q2⟩ := bytesOf_inv (P := P) hbs v1 ByteArray.empty w
        have q1' : bs = s'.data.toList.map UInt8.toNat := by rw [q1]; rfl
        rw [q1']
        refine .val (v := .string s') r (.s s') ?_
        refine execOp_v (s := convert s d (ρc x)) (by simp only [execOp, ho]) ?_
        rw [hp]
        have hb : (Conv.bytesToString (.slice (some (L.at off)) len cap)).run P w = .ok (.string s') w := by
          unfold Conv.bytesToString
          simp only [Sem.run_bind, v4, Result.andThen_ok]
          rw [← Array.forIn_toList]
          rw [List.toList_toArray]
          refine (congrArg (fun r => Result.andThen r fun a w' => Sem.run P (pure (Value.string a)) w') (show _ = Result.ok s' w from ?_)).trans rfl
          exact q2
        simp only [convert, Sem.run_bind, run_underlying h1, run_underlying h2, run_underlying h2', Result.andThen_ok]
        exact hb
      · cases hx
    · cases hx
  · cases hx

end
end Go.Proofs.YtmlfcopllfdjfaaGreat.Am
