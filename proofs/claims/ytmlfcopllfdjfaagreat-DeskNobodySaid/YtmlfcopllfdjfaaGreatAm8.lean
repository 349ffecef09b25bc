/- An abstract machine for the program's code, and that it is sound: part Am8. -/
import Derived.Test.YtmlfcopllfdjfaaGreatAm7
namespace Go.Proofs.YtmlfcopllfdjfaaGreat.Am
variable {P : Program} {Θ : Th} {G : Gm}

theorem at_inv {a : Array TypeId} {i : Nat} {d : TypeDesc} (h : at? P a i = some d) : ∃ t, a[i]? = some t ∧ P.underlying t = some d := by
  unfold at? at h
  split at h
  · rename_i t ht; exact ⟨t, ht, h⟩
  · cases h

theorem cRefs1 {l : List Operand} {y : Rf} (h : cRefs l = some [y]) : ∃ x, l = [x] ∧ cRef x = some y := by
  cases l with
  | nil => simp [cRefs] at h
  | cons x l =>
    simp only [cRefs] at h
    split at h
    · rename_i y' r h1 h2
      cases h
      cases l with
      | nil => exact ⟨x, rfl, h1⟩
      | cons a l =>
        simp only [cRefs] at h2
        split at h2 <;> cases h2
    · cases h

theorem cRefs2 {l : List Operand} {y z : Rf} (h : cRefs l = some [y, z]) : ∃ x x', l = [x, x'] ∧ cRef x = some y ∧ cRef x' = some z := by
  cases l with
  | nil => simp [cRefs] at h
  | cons x l =>
    simp only [cRefs] at h
    split at h
    · rename_i y' r h1 h2
      cases h
      obtain ⟨x', rfl, h3⟩ := cRefs1 h2
      exact ⟨x, x', rfl, h1, h3⟩
    · cases h

section
variable {h h' : AH} {w : World} {nx : Nx} {ρ : Rf → AV} {ρc : Operand → Value} {o : Oper}

theorem execOp_builtin {b : Builtin} {c : Call} (ho : o.op = .call c) (hb : c.callee = .builtin b) :
    execOp ρc o = Go.builtin b c.argTypes o.type (c.args.map fun | .const _ => true | _ => false) (c.args.map ρc) := by
  simp only [execOp, ho, resolve, hb]
  rfl

theorem args1 {c : Call} {x : Operand} (h : c.args.toList = [x]) : c.args.map ρc = #[ρc x] := by
  have : c.args = #[x] := by rw [← Array.toArray_toList (xs := c.args), h]
  rw [this]; simp

theorem args2 {c : Call} {x y : Operand} (h : c.args.toList = [x, y]) : c.args.map ρc = #[ρc x, ρc y] := by
  have : c.args = #[x, y] := by rw [← Array.toArray_toList (xs := c.args), h]
  rw [this]; simp

/-! ### len, cap, min, max -/

theorem op_len0 {c : Call} {y : Rf} (ho : o.op = .call c) (hb : c.callee = .builtin .len) (hu : at? P c.argTypes 0 = some .string)
    (hc : cRefs c.args.toList = some [y]) (hx : xop ρ (.len 0 y) h = .ok nx h') (hρ : RRef Θ G ρ ρc) (r : RH P Θ G h w) : OpOK P Θ G h w nx h' ((execOp ρc o).run P w) := by
  obtain ⟨x, ha, hcx⟩ := cRefs1 hc
  obtain ⟨t, ht, hut⟩ := at_inv hu
  have hv := hρ _ _ hcx
  simp only [xop] at hx
  split at hx <;> first
    | (cases hx; done)
    | skip
  · rename_i l _ e
    rw [natK_eq] at hx
    obtain ⟨rfl, rfl⟩ := ok_inj hx
    obtain ⟨s, hp, rfl⟩ := str_inv e hv
    rw [List.length_map, bytes_len]
    refine .val r (.i _ _) ?_
    simp [execOp_builtin ho hb, Go.builtin, args1 ha, Builtin.len_, ht, run_underlying hut, hp, goInt]
  all_goals (rename_i h0 _; cases h0)

theorem op_len1 {c : Call} {y : Rf} {e : TypeId} (ho : o.op = .call c) (hb : c.callee = .builtin .len) (hu : at? P c.argTypes 0 = some (.slice e))
    (hc : cRefs c.args.toList = some [y]) (hx : xop ρ (.len 1 y) h = .ok nx h') (hρ : RRef Θ G ρ ρc) (r : RH P Θ G h w) : OpOK P Θ G h w nx h' ((execOp ρc o).run P w) := by
  obtain ⟨x, ha, hcx⟩ := cRefs1 hc
  obtain ⟨t, ht, hut⟩ := at_inv hu
  have hv := hρ _ _ hcx
  simp only [xop] at hx
  split at hx <;> first
    | (cases hx; done)
    | skip
  · rename_i h0 _; cases h0
  · rename_i _ e
    obtain ⟨rfl, rfl⟩ := ok_inj hx
    rw [e] at hv
    generalize hp : ρc x = q at hv
    cases hv
    refine .val r (.i _ _) ?_
    simp [execOp_builtin ho hb, Go.builtin, args1 ha, Builtin.len_, ht, run_underlying hut, hp, goInt]
  · rename_i _ e
    obtain ⟨rfl, rfl⟩ := ok_inj hx
    rw [e] at hv
    generalize hp : ρc x = q at hv
    cases hv
    refine .val r (.i _ _) ?_
    simp [execOp_builtin ho hb, Go.builtin, args1 ha, Builtin.len_, ht, run_underlying hut, hp, goInt]
  · rename_i _ e
    obtain ⟨rfl, rfl⟩ := ok_inj hx
    obtain ⟨L, cap, _, hp⟩ := sl_inv e hv
    refine .val r (.i _ _) ?_
    simp [execOp_builtin ho hb, Go.builtin, args1 ha, Builtin.len_, ht, run_underlying hut, hp, goInt]
  all_goals (rename_i h0 _; cases h0)

theorem RH.map {h : AH} {w : World} (r : RH P Θ G h w) {id clock : Nat} {es : List (AV × AV × Nat)} (hg : h.o.get id = some (.map es clock)) :
    ∃ L cs, G id = some L ∧ w.heap[L.blk]? = some (.map cs clock) ∧ REs Θ G es cs.toList := by
  obtain ⟨L, hL, cs, hx, he⟩ := r.obj id _ hg rfl
  exact ⟨L, cs, hL, hx, he⟩

theorem map_inv {x : Operand} {y : Rf} {id : Nat} (e : ρ y = .m id) (hv : RV Θ G (ρ y) (ρc x)) : ∃ L, G id = some L ∧ ρc x = .map (some L.blk) := by
  rw [e] at hv
  generalize ρc x = q at hv
  cases hv with | m hL => exact ⟨_, hL, rfl⟩

theorem nm_inv {x : Operand} {y : Rf} (e : ρ y = .nm) (hv : RV Θ G (ρ y) (ρc x)) : ρc x = .map none := by
  rw [e] at hv
  generalize ρc x = q at hv
  cases hv; rfl

theorem run_getObj {r : Nat} {ob : Obj} (h : w.heap[r]? = some ob) (hn : ∀ a b c, ob ≠ .cells a b c) : (getObj r).run P w = .ok ob w := by
  simp only [getObj, Sem.run, h]

theorem run_setObj {r : Nat} {ob ob' : Obj} (h : w.heap[r]? = some ob) (hn : ∀ a b c, ob ≠ .cells a b c) : (setObj r ob').run P w = .ok () (wput w r ob') := by
  simp only [setObj, Sem.run, h]
  cases ob <;> first | rfl | exact absurd rfl (hn _ _ _)

theorem op_len2 {c : Call} {y : Rf} {a b : TypeId} (ho : o.op = .call c) (hb : c.callee = .builtin .len) (hu : at? P c.argTypes 0 = some (.map a b))
    (hc : cRefs c.args.toList = some [y]) (hx : xop ρ (.len 2 y) h = .ok nx h') (hρ : RRef Θ G ρ ρc) (r : RH P Θ G h w) : OpOK P Θ G h w nx h' ((execOp ρc o).run P w) := by
  obtain ⟨x, ha, hcx⟩ := cRefs1 hc
  obtain ⟨t, ht, hut⟩ := at_inv hu
  have hv := hρ _ _ hcx
  simp only [xop] at hx
  split at hx <;> first
    | (cases hx; done)
    | (rename_i h0 _; cases h0; done)
    | skip
  · rename_i _ e
    obtain ⟨rfl, rfl⟩ := ok_inj hx
    have hp := nm_inv e hv
    refine .val r (.i _ _) ?_
    simp [execOp_builtin ho hb, Go.builtin, args1 ha, Builtin.len_, ht, run_underlying hut, hp, goInt]
  · rename_i id _ e
    split at hx
    · rename_i es clock hg
      rw [natK_eq] at hx
      obtain ⟨rfl, rfl⟩ := ok_inj hx
      obtain ⟨L, hL, hp⟩ := map_inv e hv
      obtain ⟨L', cs, hL', hm, he⟩ := r.map hg
      rw [hL] at hL'; cases hL'
      have hlen : es.length = cs.size := by simpa using he.1
      rw [hlen]
      refine .val r (.i _ _) ?_
      simp [execOp_builtin ho hb, Go.builtin, args1 ha, Builtin.len_, ht, run_underlying hut, hp, goInt, run_getObj (P := P) hm (fun _ _ _ => by simp)]
    · cases hx

theorem op_lenc {c : Call} {y : Rf} {n : Nat} {e : TypeId} (ho : o.op = .call c) (hb : c.callee = .builtin .len) (hu : at? P c.argTypes 0 = some (.array n e))
    (hc : cRefs c.args.toList = some [y]) (hx : xop ρ (.lenc n y) h = .ok nx h') (r : RH P Θ G h w) : OpOK P Θ G h w nx h' ((execOp ρc o).run P w) := by
  obtain ⟨x, ha, hcx⟩ := cRefs1 hc
  obtain ⟨t, ht, hut⟩ := at_inv hu
  obtain ⟨rfl, rfl⟩ := ok_inj hx
  refine .val r (.i _ _) ?_
  simp [execOp_builtin ho hb, Go.builtin, args1 ha, Builtin.len_, ht, run_underlying hut, goInt]

theorem op_cap {c : Call} {y : Rf} {e : TypeId} (ho : o.op = .call c) (hb : c.callee = .builtin .cap) (hu : at? P c.argTypes 0 = some (.slice e))
    (hc : cRefs c.args.toList = some [y]) (hx : xop ρ (.cap y) h = .ok nx h') (hρ : RRef Θ G ρ ρc) (r : RH P Θ G h w) : OpOK P Θ G h w nx h' ((execOp ρc o).run P w) := by
  obtain ⟨x, ha, hcx⟩ := cRefs1 hc
  obtain ⟨t, ht, hut⟩ := at_inv hu
  have hv := hρ _ _ hcx
  simp only [xop] at hx
  split at hx
  · rename_i e
    obtain ⟨rfl, rfl⟩ := ok_inj hx
    rw [e] at hv
    generalize hp : ρc x = q at hv
    cases hv
    refine .val r (.i _ _) ?_
    simp [execOp_builtin ho hb, Go.builtin, args1 ha, Builtin.cap_, ht, run_underlying hut, hp, goInt]
  · rename_i e
    obtain ⟨rfl, rfl⟩ := ok_inj hx
    rw [e] at hv
    generalize hp : ρc x = q at hv
    cases hv
    refine .val r (.i _ _) ?_
    simp [execOp_builtin ho hb, Go.builtin, args1 ha, Builtin.cap_, ht, run_underlying hut, hp, goInt]
  · cases hx

theorem op_mnx {c : Call} {y z : Rf} {mx : Bool} (ho : o.op = .call c) (hb : c.callee = .builtin (if mx then .max else .min))
    (hc : cRefs c.args.toList = some [y, z]) (hx : xop ρ (.mnx mx y z) h = .ok nx h') (hρ : RRef Θ G ρ ρc) (r : RH P Θ G h w) : OpOK P Θ G h w nx h' ((execOp ρc o).run P w) := by
  obtain ⟨x, x', ha, h1, h2⟩ := cRefs2 hc
  have ha2 := args2 (ρc := ρc) ha
  simp only [xop, kindEq_eq] at hx
  split at hx
  · rename_i k a k' b e1 e2
    have i1 := int_inv e1 (hρ _ _ h1)
    have i2 := int_inv e2 (hρ _ _ h2)
    split at hx
    · rename_i hk
      have hk' : k = k' := by simpa using hk
      subst hk'
      obtain ⟨rfl, rfl⟩ := ok_inj hx
      refine .val r (.i _ _) ?_
      rw [execOp_builtin ho hb, ha2, i1, i2]
      simp only [Bool.false_eq_true, if_false, Go.builtin, Builtin.min_, List.foldlM, Builtin.min2]
      by_cases c : b < a <;> simp [c]
    · rename_i hk
      have hk' : k = k' := by simpa using hk
      subst hk'
      obtain ⟨rfl, rfl⟩ := ok_inj hx
      refine .val r (.i _ _) ?_
      rw [execOp_builtin ho hb, ha2, i1, i2]
      simp only [if_true, Go.builtin, Builtin.max_, List.foldlM, Builtin.max2]
      by_cases c : a < b <;> simp [c]
    · cases hx
  · cases hx

/-! ### append -/

theorem run_new_drew (ob : Obj) : (newObj ob).run P w.drew = .ok w.heap.size (w.drew.alloc ob) := rfl

/-- Where append makes a new row: the old cells, the new ones, and more zeros. -/
theorem Next.tailRow (r : RH P Θ G h w) {l : List AV} {cs : Array Value} {more : Array Value} (ty : TypeId) (hl : RL Θ G l cs.toList) :
    Next P Θ G h w (G.put h.nx ⟨w.heap.size, 0, cs.size + more.size⟩) ⟨h.nx + 1, h.o.set h.nx (.cells l.length true false l.length l .e)⟩ (w.drew.alloc (.cells (cs ++ more) ty)) := by
  have n1 := Next.drew r
  refine n1.trans (Next.new n1.rh (.cells l.length true false l.length l .e) _ (cs.size + more.size) ⟨cs ++ more, ty, (0, 0), rfl, ?_⟩)
  have hlen : l.length = cs.size := by simpa using hl.1
  refine ⟨by simp, (by simp; omega), (fun h => by cases h), fun off v hv => ?_, fun _ off _ => by simp⟩
  have hg := row_get l off v hv
  obtain ⟨c, h1, h2⟩ := hl.get hg
  have hlt : off < l.length := by
    rcases Nat.lt_or_ge off l.length with h | h
    · exact h
    · rw [List.getElem?_eq_none h] at hg; cases hg
  exact ⟨c, by rw [Nat.zero_add, Array.getElem?_append_left (by omega)]; simpa using h1, h2.ext (Ext.put n1.rh _)⟩

theorem RL.bytes (b : List UInt8) : RL Θ G ((b.map UInt8.toNat).map fun n => AV.i .u8 (Int.ofNat n)) (b.map fun c => Value.int .u8 c.toNat) := by
  rw [List.map_map]
  exact RL.of_map b _ _ fun x _ => .i _ _

theorem cellsOfSl_sound (r : RH P Θ G h w) {esz k : Nat} {x : AV} {l : List AV} {v : Value} (hc : cellsOfSl h esz x = some (k, l)) (hv : RV Θ G x v) :
    (∀ w, (Builtin.lenOf v).run P w = .ok k w) ∧ l.length = k * esz ∧ ∀ n, n ≤ k → ∃ vs, RL Θ G (l.take (n * esz)) vs ∧ (Builtin.firstCells esz n v).run P w = .ok vs.toArray w := by
  unfold cellsOfSl at hc
  split at hc
  · cases hc
    cases hv
    exact ⟨fun w => rfl, by simp, fun n _ => ⟨[], by simpa using RL.nil, rfl⟩⟩
  · cases hc
    cases hv
    refine ⟨fun w => rfl, by simp, fun n hn => ⟨[], by simpa using RL.nil, ?_⟩⟩
    have : n = 0 := by omega
    subst this
    simp [Builtin.firstCells, loadCells, loadCellsFrom]
  · rename_i id off len c
    split at hc
    · rename_i l' hl
      cases hc
      obtain ⟨L, cap, hL, rfl⟩ : ∃ L cap, G id = some L ∧ v = .slice (some (L.at off)) k cap := by
        cases hv with
        | sle _ _ _ hL => exact ⟨_, _, hL, rfl⟩
        | slt _ _ _ _ hL _ _ => exact ⟨_, _, hL, rfl⟩
      obtain ⟨vs, h1, h2, h3, h4⟩ := r.load hl hL
      refine ⟨fun w => rfl, by rw [h1.1, h2], fun n hn => ⟨vs.take (n * esz), h1.take _, ?_⟩⟩
      have hle : n * esz ≤ k * esz := Nat.mul_le_mul_right _ hn
      have hlt : (vs.take (n * esz)).length = n * esz := by rw [List.length_take]; omega
      have := run_loadCells_list (P := P) w (L.at off) (vs.take (n * esz)) (fun j v hv => by
        rw [Loc.at_add]
        rw [List.getElem?_take] at hv
        split at hv
        · exact h3 j v hv
        · cases hv)
      rw [hlt] at this
      exact this
    · cases hc
  · rename_i s
    split at hc
    case h_2 => cases hc
    rename_i h1
    have h1 : esz = 1 := Nat.eq_of_beq_eq_true h1
    cases hc
    cases hv with | s b =>
      subst h1
      refine ⟨fun w => ?_, by simp, fun n hn => ⟨(b.data.toList.map fun c => Value.int .u8 c.toNat).take n, ?_, ?_⟩⟩
      · rw [List.length_map, bytes_len]; rfl
      · rw [Nat.mul_one]; exact (RL.bytes b.data.toList).take n
      · simp only [Builtin.firstCells, Sem.run_pure]
        congr 1
        apply Array.ext'
        simp [Array.toList_extract]
  · cases hc

theorem nextslicecap_le {need cap : Nat} (hlt : cap < need) : Builtin.nextslicecap need cap ≤ 2 * need := by
  have key : ∀ (k c : Nat), c < need → 256 ≤ c → Builtin.growBy need k c ≤ 2 * need := by
    intro k
    induction k with
    | zero => intro c h _; simp only [Builtin.growBy]; omega
    | succ k ih =>
      intro c h1 h2
      simp only [Builtin.growBy]
      split
      · omega
      · by_cases h3 : c + (c + 768) / 4 < need
        · exact ih _ h3 (by omega)
        · have : ∀ k, Builtin.growBy need k (c + (c + 768) / 4) = c + (c + 768) / 4 := by
            intro k
            cases k with
            | zero => rfl
            | succ k => simp only [Builtin.growBy]; rw [if_pos (by omega)]
          rw [this]; omega
  unfold Builtin.nextslicecap
  split
  · omega
  · split
    · omega
    · exact key 4 cap hlt (by omega)

/-- A row goes on in another name: the old name is not used any more. -/
theorem Next.rename (r : RH P Θ G h w) {id : Nat} {ob o' : AO} {L L' : Loc} {cb : Obj} (ho : h.o.get id = some ob) (hl : ob.wr = true) (hL : G id = some L) (hb : L'.blk = L.blk)
    (hr : RO P Θ (G.put h.nx L') (some cb) L' o') : Next P Θ G h w (G.put h.nx L') ⟨h.nx + 1, (h.o.set id .dead).set h.nx o'⟩ (wput w L.blk cb) := by
  have hext := Ext.put r L'
  have hlv := AO.live_of_wr hl
  have hid : id < h.nx := r.bound id L hL
  have hlt := r.blk_lt ho hlv hL
  have hput : ∀ i, i ≠ h.nx → (G.put h.nx L') i = G i := fun i e => if_neg e
  have hget : ∀ i, ((h.o.set id .dead).set h.nx o').get i = if i = h.nx then some o' else if i = id then some .dead else h.o.get i := fun i => by rw [Tr.get_set, Tr.get_set]
  refine .of r hext (fun hfx hhi => ⟨fun i x hx hlx => ?_, fun i j x y Li Lj hx hy lx ly hwr hLi hLj e => ?_, fun i Li hLi => ?_, fun i hi => ?_, hfx, hhi⟩) ⟨by simp [wput], fun b hb' hn => ?_, rfl, rfl, rfl⟩ ⟨fun b hb' => ?_, fun b hb' => ?_⟩ (Nat.le_succ _) fun i hi => hput i (Nat.ne_of_lt hi)
  · simp only [hget] at hx
    by_cases e1 : i = h.nx
    · rw [if_pos e1] at hx; cases hx; subst e1
      exact ⟨L', if_pos rfl, by rw [hb, wput_same w _ _ hlt]; exact hr⟩
    · rw [if_neg e1] at hx
      by_cases e2 : i = id
      · rw [if_pos e2] at hx; cases hx; cases hlx
      · rw [if_neg e2] at hx
        obtain ⟨Li, h1, h2⟩ := r.obj i x hx hlx
        refine ⟨Li, (hput i e1).trans h1, ?_⟩
        rw [wput_other w _ _ _ (fun eb => e2 (r.inj i id x ob Li L hx ho hlx hlv (.inr hl) h1 hL eb.symm))]
        exact h2.ext hext
  · simp only [hget] at hx hy
    by_cases e1 : i = h.nx <;> by_cases e2 : j = h.nx
    · rw [e1, e2]
    · exfalso
      rw [if_neg e2] at hy
      by_cases e3 : j = id
      · rw [if_pos e3] at hy; cases hy; cases ly
      · rw [if_neg e3] at hy
        have h1 : (G.put h.nx L') i = some L' := if_pos e1
        rw [h1] at hLi; cases hLi
        exact e3 (r.inj j id y ob Lj L hy ho ly hlv (.inr hl) ((hput j e2).symm.trans hLj) hL (e.symm.trans hb))
    · exfalso
      rw [if_neg e1] at hx
      by_cases e3 : i = id
      · rw [if_pos e3] at hx; cases hx; cases lx
      · rw [if_neg e3] at hx
        have h1 : (G.put h.nx L') j = some L' := if_pos e2
        rw [h1] at hLj; cases hLj
        exact e3 (r.inj i id x ob Li L hx ho lx hlv (.inr hl) ((hput i e1).symm.trans hLi) hL (e.trans hb))
    · rw [if_neg e1] at hx; rw [if_neg e2] at hy
      by_cases e3 : i = id
      · rw [if_pos e3] at hx; cases hx; cases lx
      · by_cases e4 : j = id
        · rw [if_pos e4] at hy; cases hy; cases ly
        · rw [if_neg e3] at hx; rw [if_neg e4] at hy
          exact r.inj i j x y Li Lj hx hy lx ly hwr ((hput i e1).symm.trans hLi) ((hput j e2).symm.trans hLj) e
  · show i < h.nx + 1
    by_cases e : i = h.nx
    · omega
    · have := r.bound i Li ((hput i e).symm.trans hLi); omega
  · show ((h.o.set id .dead).set h.nx o').get i = none
    have hi' : h.nx + 1 ≤ i := hi
    rw [hget, if_neg (by omega), if_neg (by omega)]
    exact r.fresh i (by omega)
  · exact wput_other w _ _ _ fun e => hn ⟨id, ob, L, ho, hl, hL, e⟩
  · obtain ⟨i, x, Li, hx, hlx, hLi, rfl⟩ := hb'
    simp only [hget] at hx
    by_cases e1 : i = h.nx
    · have h1 : (G.put h.nx L') i = some L' := if_pos e1
      rw [h1] at hLi; cases hLi
      exact .inl ⟨id, ob, L, ho, hl, hL, hb.symm⟩
    · rw [if_neg e1] at hx
      by_cases e2 : i = id
      · rw [if_pos e2] at hx; cases hx; cases hlx
      · rw [if_neg e2] at hx
        exact .inl ⟨i, x, Li, hx, hlx, (hput i e1).symm.trans hLi, rfl⟩
  · obtain ⟨i, x, Li, hx, hlx, hLi, rfl⟩ := hb'
    simp only [hget] at hx
    by_cases e1 : i = h.nx
    · have h1 : (G.put h.nx L') i = some L' := if_pos e1
      rw [h1] at hLi; cases hLi
      exact .inl ⟨id, ob, L, ho, hlv, hL, hb.symm⟩
    · rw [if_neg e1] at hx
      by_cases e2 : i = id
      · rw [if_pos e2] at hx; cases hx; cases hlx
      · rw [if_neg e2] at hx
        exact .inl ⟨i, x, Li, hx, hlx, (hput i e1).symm.trans hLi, rfl⟩

theorem size_of_info {t : TypeId} {ie : TypeInfo} (h : P.info? t = some ie) : cSize P t = some ie.size := by unfold cSize; rw [h]; rfl

theorem forced_cap (a b : Nat) (t : TypeId) : (Question.appendCap a b t).forced = false := rfl
theorem cut_cap (a b t : Nat) (e : TypeId) : a ≤ (Question.appendCap a b e).cut t := by
  show a ≤ a + t % (2 ^ 63 - a)
  exact Nat.le_add_right _ _

def StoreAt (P : Program) (base : Option Addr) (k : Nat) (vs : List Value) (w w1 : World) : Prop := match base with
  | some a => (storeCells (a.add k) vs).run P w = .ok () w1
  | none => w1 = w

theorem append_place {at_ : Array TypeId} {ty t0 t1 elem : TypeId} {d1 : TypeDesc} {size n : Nat} {base : Option Addr} {sLen sCap : Nat} {x : Value} (h0 : at_[0]? = some t0) (h1 : at_[1]? = some t1) (hu0 : P.underlying t0 = some (.slice elem)) (hu1 : P.underlying t1 = some d1)
    (hd : ∀ k, d1 ≠ .int k) (hs : cSize P elem = some size) (hn : ∀ w, (Builtin.lenOf x).run P w = .ok n w) (hle : sLen + n ≤ sCap) {vs : List Value} {w w1 : World} (hv : (Builtin.firstCells size n x).run P w = .ok vs.toArray w)
    (hst : StoreAt P base (sLen * size) vs w w1) :
    (Builtin.append_ at_ ty #[.slice base sLen sCap, x]).run P w = .ok (.slice base (sLen + n) sCap) w1 := by
  unfold Builtin.append_
  simp only [h0, h1, List.getElem?_toArray, List.getElem?_cons_zero, List.getElem?_cons_succ, Sem.run_bind, run_underlying hu0, run_underlying hu1, Result.andThen_ok, run_size hs, Sem.run_pure, Bool.false_eq_true, if_false, hn, Bool.not_false, if_true]
  rw [if_pos hle]
  simp only [Sem.run_bind, hv, Result.andThen_ok]
  cases base with
  | none => simp only [StoreAt] at hst ⊢; rw [hst]; rfl
  | some a => simp only [StoreAt] at hst ⊢; rw [Sem.run_bind, hst]; rfl

theorem append_grow {at_ : Array TypeId} {ty t0 t1 elem : TypeId} {d1 : TypeDesc} {n : Nat} {base : Option Addr} {sLen sCap : Nat} {x : Value} {ie : TypeInfo} (h0 : at_[0]? = some t0) (h1 : at_[1]? = some t1) (hu0 : P.underlying t0 = some (.slice elem)) (hu1 : P.underlying t1 = some d1)
    (hd : ∀ k, d1 ≠ .int k) (hi : P.info? elem = some ie) (hb : 0 < ie.bytes) (hn : ∀ w, (Builtin.lenOf x).run P w = .ok n w) (hle : ¬ sLen + n ≤ sCap) (hsm : (sLen + n) * ie.bytes ≤ 140737488355328) {vs os : Array Value} {zv : Value} {w : World}
    (ho : (Builtin.firstCells ie.size sLen (.slice base sLen sCap)).run P w.drew = .ok os w.drew) (hv : (Builtin.firstCells ie.size n x).run P w.drew = .ok vs w.drew) (hz : ∀ w, (zeroValue elem).run P w = .ok zv w) :
    ∃ nc, sLen + n ≤ nc ∧ (Builtin.append_ at_ ty #[.slice base sLen sCap, x]).run P w = .ok (.slice (some ⟨w.heap.size, 0, none⟩) (sLen + n) nc) (w.drew.alloc (.cells (os ++ vs ++ Builtin.zeroCells zv.cells (nc - (sLen + n))) elem)) := by
  refine ⟨(Question.appendCap (sLen + n) sCap elem).cut (w.tape w.drawn (.appendCap (sLen + n) sCap elem)), cut_cap _ _ _ _, ?_⟩
  have c1 : ¬ (((sLen + n : Nat) : Int) > IntKind.i64.max ∧ (False ∨ ie.bytes = 0)) := by rintro ⟨_, h | h⟩ <;> first | exact h | omega
  have c2 : ¬ Builtin.nextslicecap (sLen + n) sCap * ie.bytes > 2 ^ 48 := by
    have h1 := nextslicecap_le (need := sLen + n) (cap := sCap) (by omega)
    have h2 : Builtin.nextslicecap (sLen + n) sCap * ie.bytes ≤ 2 * (sLen + n) * ie.bytes := Nat.mul_le_mul_right _ h1
    rw [Nat.mul_assoc] at h2
    have h3 : (2 : Nat) ^ 48 = 281474976710656 := by decide
    rw [h3]; omega
  unfold Builtin.append_
  simp only [h0, h1, List.getElem?_toArray, List.getElem?_cons_zero, List.getElem?_cons_succ, Sem.run_bind, run_underlying hu0, run_underlying hu1, Result.andThen_ok, run_size (size_of_info hi), Sem.run_pure, Bool.false_eq_true, if_false, hn, Bool.not_false, if_true]
  rw [if_neg hle]
  simp only [Sem.run_bind, run_info hi, Result.andThen_ok]
  rw [if_neg c1]
  simp only [Sem.run_bind, run_info hi, Result.andThen_ok]
  rw [if_neg c2]
  simp only [Sem.run_bind, run_choose, forced_cap, Bool.false_eq_true, if_false, Result.andThen_ok, run_info hi, run_askRoom, World.drew_eq, ho, hv, hz, newRow, run_newObj, Sem.run_pure]
  rfl

/-- The machine's append against what a row's append does, place or new row. -/
structure AppSpec (P : Program) (Θ : Th) (esz bytes k : Nat) (w : World) (new : List AV) (G : Gm) (h : AH) (s : Value) (run : Value → Result Value) : Prop where
  place : ∀ (base : Option Addr) (sLen sCap : Nat), s = .slice base sLen sCap → sLen + k ≤ sCap → ∃ vs, RL Θ G new vs ∧ ∀ w1, StoreAt P base (sLen * esz) vs w w1 → run s = .ok (.slice base (sLen + k) sCap) w1
  grow : ∀ (base : Option Addr) (sLen sCap : Nat), s = .slice base sLen sCap → ¬ sLen + k ≤ sCap → (sLen + k) * bytes ≤ 140737488355328 → ∀ os : Array Value, (Builtin.firstCells esz sLen (.slice base sLen sCap)).run P w.drew = .ok os w.drew →
    ∃ (vs more : Array Value) (nc : Nat) (ty : TypeId), RL Θ G new vs.toList ∧ sLen + k ≤ nc ∧ more.size = (nc - (sLen + k)) * esz ∧ run s = .ok (.slice (some ⟨w.heap.size, 0, none⟩) (sLen + k) nc) (w.drew.alloc (.cells (os ++ vs ++ more) ty))

theorem RH.firstCells (r : RH P Θ G h w) {id off esz len : Nat} {l : List AV} (hl : hload h id off (len * esz) = some l) {L : Loc} (hL : G id = some L) (cap : Nat) :
    ∃ vs : List Value, RL Θ G l vs ∧ vs.length = len * esz ∧ (Builtin.firstCells esz len (.slice (some (L.at off)) len cap)).run P w = .ok vs.toArray w := by
  obtain ⟨vs, h1, h2, _, h4⟩ := r.load hl hL
  exact ⟨vs, h1, h2, h4⟩

theorem cap_sum {need nc esz : Nat} (h : need ≤ nc) : nc * esz + 0 = need * esz + (nc - need) * esz := by
  rw [← Nat.add_mul, Nat.add_sub_of_le h]; rfl

theorem aappend_sound (hΘ : Thin Θ) (r : RH P Θ G h w) {esz bytes k : Nat} {x : AV} {s : Value} {new : List AV} {run : Value → Result Value} (hz : 0 < esz) (hs : RV Θ G x s) (hnew : new.length = k * esz)
    (A : AppSpec P Θ esz bytes k w new G h s run) (hx : aappend esz bytes h x new k = .ok nx h') :
    ∃ a v w' G', nx = .v a ∧ run s = .ok v w' ∧ Next P Θ G h w G' h' w' ∧ RV Θ G' a v := by
  cases hs with
  | nsl =>
    simp only [aappend] at hx
    cases k with
    | zero =>
      obtain ⟨rfl, rfl⟩ := ok_inj hx
      obtain ⟨vs, _, hr⟩ := A.place none 0 0 rfl (Nat.le_refl _)
      exact ⟨_, _, w, G, rfl, hr w rfl, .refl r, .nsl⟩
    | succ k =>
      simp only at hx
      split at hx
      · rename_i hle
        have hle' := Nat.le_of_ble_eq_true hle
        rw [hnew_eq] at hx
        obtain ⟨rfl, rfl⟩ := ok_inj hx
        obtain ⟨vs, more, nc, ty, h1, h2, h3, h4⟩ := A.grow none 0 0 rfl (by omega) (by rw [Nat.zero_add]; exact hle') #[] (by simp [Builtin.firstCells])
        rw [Nat.zero_add] at h2 h3 h4
        rw [show (#[] : Array Value) ++ vs = vs by simp] at h4
        have hvs : vs.size = (k + 1) * esz := by have := h1.1; simp at this; omega
        refine ⟨_, _, _, _, rfl, h4, Next.tailRow (more := more) r ty h1, ?_⟩
        exact .slt 0 (k + 1) esz nc (Gm.put_same _ _ _) hz (by
          show nc * esz + 0 = vs.size + more.size
          rw [hvs, h3]; exact cap_sum h2)
      · cases hx
  | zs a c =>
    simp only [aappend] at hx
    cases k with
    | zero =>
      obtain ⟨rfl, rfl⟩ := ok_inj hx
      have hn : new = [] := List.length_eq_zero_iff.1 (by omega)
      subst hn
      obtain ⟨vs, hv, hr⟩ := A.place (some a) 0 c rfl (by omega)
      rw [hv.nil_inv] at hr
      exact ⟨_, _, w, G, rfl, hr w rfl, .refl r, .zs _ _⟩
    | succ k => cases hx
  | @sle id L off len c hL =>
    simp only [aappend, natK_eq] at hx
    split at hx
    · rename_i hle
      have hle' := Nat.le_of_ble_eq_true hle
      obtain ⟨vs, hv, hr⟩ := A.place (some (L.at off)) len c rfl hle'
      obtain ⟨h1, w1, hc, _, hst, hn⟩ := r.store hΘ hx hL hv
      obtain ⟨rfl, rfl⟩ := ok_inj hc
      exact ⟨_, _, w1, G, rfl, hr w1 (by show (storeCells ((L.at off).add _) vs).run P w = _; rw [Loc.at_add]; exact hst), hn, .sle off _ c hL⟩
    · rename_i hle
      split at hx
      · rename_i old hb hl
        have hb' := Nat.le_of_ble_eq_true hb
        have hle' : ¬ len + k ≤ c := fun e => by rw [Nat.ble_eq_true_of_le e] at hle; cases hle
        rw [listK_eq, hnew_eq] at hx
        obtain ⟨rfl, rfl⟩ := ok_inj hx
        obtain ⟨os, o1, o2, o3⟩ := r.drew.firstCells hl hL c
        obtain ⟨vs, more, nc, ty, h1, h2, h3, h4⟩ := A.grow _ _ _ rfl hle' hb' _ o3
        have hvs : vs.size = k * esz := by have := h1.1; simp at this; omega
        have hcs : RL Θ G (old ++ new) (os.toArray ++ vs).toList := by simpa using o1.append h1
        refine ⟨_, _, _, _, rfl, h4, Next.tailRow (more := more) r ty hcs, ?_⟩
        exact .slt 0 (len + k) esz nc (Gm.put_same _ _ _) hz (by
          show nc * esz + 0 = (os.toArray ++ vs).size + more.size
          simp only [Array.size_append, List.size_toArray]
          rw [o2, hvs, h3, ← Nat.add_mul]; exact cap_sum h2)
      · cases hx
  | @slt id L off len es c hL hz' hc =>
    simp only [aappend, natK_eq] at hx
    split at hx
    · rename_i n tail pd d t he hg
      have hes : es = esz := Nat.eq_of_beq_eq_true he
      subst hes
      obtain ⟨L', cs, ty0, fr, hL', hw, rc⟩ := r.cells hg
      rw [hL] at hL'; cases hL'
      have hk := rc.known
      split at hx
      · rename_i hle
        have hle' := Nat.le_of_ble_eq_true hle
        have hcap : len + k ≤ c := by
          rcases Nat.lt_or_ge c (len + k) with h | h
          · have : (c + 1) * es ≤ (len + k) * es := Nat.mul_le_mul_right _ h
            rw [Nat.add_mul] at this
            omega
          · exact h
        obtain ⟨vs, hv, hr⟩ := A.place (some (L.at off)) len c rfl hcap
        obtain ⟨h1, w1, hcc, _, hst, hn⟩ := r.store hΘ hx hL hv
        obtain ⟨rfl, rfl⟩ := ok_inj hcc
        exact ⟨_, _, w1, G, rfl, hr w1 (by show (storeCells ((L.at off).add _) vs).run P w = _; rw [Loc.at_add]; exact hst), hn, .slt off _ es c hL hz hc⟩
      · rename_i hle
        split at hx
        · rename_i old hb hl
          rw [Bool.and_eq_true] at hb
          have hb' := Nat.le_of_ble_eq_true hb.1
          have hone := hb.2
          rw [listK_eq, hset_eq, hnew_eq] at hx
          obtain ⟨rfl, rfl⟩ := ok_inj hx
          have hl' : hload h id off (len * es) = some old := by unfold hload; rw [hg]; exact hl
          have holen : old.length = len * es := (cgets_get hl).1
          by_cases hcap : len + k ≤ c
          · -- in place, beyond what is known
            obtain ⟨vs, hv, hr⟩ := A.place (some (L.at off)) len c rfl hcap
            have hvs : vs.length = k * es := by rw [← hv.1, hnew]
            have hfit : off + (len + k) * es ≤ L.size := by
              have := Nat.mul_le_mul_right es hcap; omega
            rw [Nat.add_mul] at hfit
            have hsz := rc.size
            have hst := run_storeCells_at (P := P) vs w L (off + len * es) 0 cs ty0 fr hw (by omega) (fun v hm => by
              obtain ⟨i, hi, rfl⟩ := List.getElem_of_mem hm
              have hi' : i < new.length := by omega
              exact (hv.2 i new[i] _ (List.getElem?_eq_getElem hi') (by simp)).one hΘ (List.all_eq_true.1 hone _ (List.getElem_mem hi')))
              (fun j ha hb => rc.free rfl j (by omega))
            obtain ⟨vo, hvo, hvc⟩ := cgets_cells rc hl
            refine ⟨_, _, _, _, rfl, hr _ (by show (storeCells ((L.at off).add _) vs).run P w = _; rw [Loc.at_add]; exact hst),
              Next.rename r hg rfl hL (L' := ⟨L.blk, L.base + off, L.size - off⟩) rfl ⟨_, ty0, fr, rfl, ?_⟩, ?_⟩
            · have hext := Ext.put r ⟨L.blk, L.base + off, L.size - off⟩
              refine ⟨by rw [cwrite_size]; show L.base + off + (L.size - off) = _; omega, by show (old ++ new).length ≤ L.size - off; rw [List.length_append]; omega, (fun h => by cases h), fun q v hq => ?_, fun _ q hq => ?_⟩
              · have hg2 := row_get _ q v hq
                show ∃ c, (cwrite cs _ vs)[L.base + off + q]? = some c ∧ _
                rw [cwrite_get _ _ _ _ (by omega)]
                by_cases hlt : q < old.length
                · rw [List.getElem?_append_left hlt] at hg2
                  rw [if_neg (by omega)]
                  obtain ⟨c', h1, h2⟩ := hvo.get hg2
                  refine ⟨c', ?_, h2.ext hext⟩
                  rw [Nat.add_assoc]; exact hvc q c' h1
                · rw [List.getElem?_append_right (by omega)] at hg2
                  have hql : q - old.length < new.length := by
                    rcases Nat.lt_or_ge (q - old.length) new.length with h | h
                    · exact h
                    · rw [List.getElem?_eq_none h] at hg2; cases hg2
                  rw [if_pos (by omega), show L.base + off + q - (L.base + (off + len * es + 0)) = q - old.length by omega]
                  obtain ⟨c', h1, h2⟩ := hv.get hg2
                  exact ⟨c', h1, h2.ext hext⟩
              · have hq' : q < L.size - off := hq
                have := rc.free rfl (off + q) (by omega)
                show ¬ (fr.1 ≤ L.base + off + q ∧ L.base + off + q < fr.2)
                rw [Nat.add_assoc]; exact this
            · have e : L.at off = (⟨L.blk, L.base + off, L.size - off⟩ : Loc).at 0 := rfl
              rw [e]
              exact .slt 0 (len + k) es c (Gm.put_same _ _ _) hz (by show c * es + 0 = L.size - off; omega)
          · -- a new row
            have n1 := Next.kill (w := w) r (id := id) (r.bound id L hL)
            obtain ⟨os, o1, o2, o3⟩ := r.drew.firstCells hl' hL c
            obtain ⟨vs, more, nc, ty, h1, h2, h3, h4⟩ := A.grow _ _ _ rfl hcap hb' _ o3
            have hvs : vs.size = k * es := by have := h1.1; simp at this; omega
            have hcs : RL Θ G (old ++ new) (os.toArray ++ vs).toList := by simpa using o1.append h1
            refine ⟨_, _, _, _, rfl, h4, n1.trans (Next.tailRow (more := more) n1.rh ty hcs), ?_⟩
            exact .slt 0 (len + k) es nc (Gm.put_same _ _ _) hz (by
              show nc * es + 0 = (os.toArray ++ vs).size + more.size
              simp only [Array.size_append, List.size_toArray]
              rw [o2, hvs, h3, ← Nat.add_mul]; exact cap_sum h2)
        · cases hx
    · cases hx
  | _ => simp [aappend] at hx

end
end Go.Proofs.YtmlfcopllfdjfaaGreat.Am
