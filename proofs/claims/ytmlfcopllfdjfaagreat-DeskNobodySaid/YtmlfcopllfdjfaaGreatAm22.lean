/- An abstract machine for the program's code, and that it is sound: part Am22. -/
import Derived.Test.YtmlfcopllfdjfaaGreatAm20
import Derived.Test.YtmlfcopllfdjfaaGreatAm21
namespace Go.Proofs.YtmlfcopllfdjfaaGreat.Am
variable {P : Program} {Θ : Th} {G : Gm}

/-! ### What an operation looks at -/

theorem refs_congr {ρ ρ' : Rf → AV} : ∀ {l : List Rf}, (∀ x ∈ l, ρ x = ρ' x) → refs ρ l = refs ρ' l
  | [], _ => rfl
  | x :: l, h => by simp only [refs, h x (.head _), refs_congr (l := l) fun y hy => h y (.tail _ hy)]

theorem parts3_congr {ρ ρ' : Rf → AV} : ∀ {l : List (Nat × Nat × Rf)}, (∀ x ∈ l.map (fun p => p.2.2), ρ x = ρ' x) → parts3 ρ l = parts3 ρ' l
  | [], _ => rfl
  | (a, b, x) :: l, h => by simp only [parts3, h x (.head _), parts3_congr (l := l) fun y hy => h y (.tail _ hy)]

theorem ro_congr {ρ ρ' : Rf → AV} : ∀ {x : Option Rf}, (∀ y ∈ oslot x, ρ y = ρ' y) → ro ρ x = ro ρ' x
  | none, _ => rfl
  | some x, h => by simp only [ro, h x (.head _)]

set_option maxHeartbeats 1000000 in
theorem xop_congr {ρ ρ' : Rf → AV} (o : AOp) (h : ∀ x ∈ o.refs, ρ x = ρ' x) (hp : AH) : xop ρ o hp = xop ρ' o hp := by
  cases o with
  | build z ps => simp only [xop, parts3_congr h]
  | bsl n z ps => simp only [xop, parts3_congr h]
  | mkf f a b =>
    simp only [AOp.refs, List.mem_append] at h
    simp only [xop, refs_congr fun x hx => h x (.inl hx), refs_congr fun x hx => h x (.inr hx)]
  | slS x a b =>
    simp only [AOp.refs, List.mem_append, List.mem_cons] at h
    simp only [xop, h x (.inl rfl), ro_congr fun x hx => h x (.inr (.inl hx)), ro_congr fun x hx => h x (.inr (.inr hx))]
  | slA n e x a b =>
    simp only [AOp.refs, List.mem_append, List.mem_cons] at h
    simp only [xop, h x (.inl rfl), ro_congr fun x hx => h x (.inr (.inl hx)), ro_congr fun x hx => h x (.inr (.inr hx))]
  | slL e x a b c =>
    simp only [AOp.refs, List.mem_append, List.mem_cons] at h
    simp only [xop, h x (.inl rfl), ro_congr fun x hx => h x (.inr (.inl hx)), ro_congr fun x hx => h x (.inr (.inr (.inl hx))), ro_congr fun x hx => h x (.inr (.inr (.inr hx)))]
  | call f l =>
    have h' : ∀ x ∈ l, ρ x = ρ' x := h
    simp only [xop, refs_congr h']
  | cald x l =>
    simp only [AOp.refs, List.mem_cons] at h
    simp only [xop, h x (.inl rfl), refs_congr fun y hy => h y (.inr hy)]
  | alloc | mkm | bad => rfl
  | pick a b c =>
    simp only [AOp.refs, List.mem_cons, List.not_mem_nil, or_false, forall_eq_or_imp, forall_eq] at h
    obtain ⟨h1, h2, h3⟩ := h
    simp only [xop, h1, h2, h3]
  | mu e a b c =>
    simp only [AOp.refs, List.mem_cons, List.not_mem_nil, or_false, forall_eq_or_imp, forall_eq] at h
    obtain ⟨h1, h2, h3⟩ := h
    simp only [xop, h1, h2, h3]
  | _ =>
    simp only [AOp.refs, List.mem_cons, List.not_mem_nil, or_false, forall_eq_or_imp, forall_eq] at h
    first
      | (obtain ⟨h1, h2⟩ := h; simp only [xop, h1, h2]; done)
      | (simp only [xop, h]; done)

theorem slots_mem {x : Nat} : ∀ {l : List Rf}, Rf.t x ∈ l → x ∈ slots l
  | .t n :: l, h => by
    cases h with
    | head => exact .head _
    | tail _ h => exact .tail _ (slots_mem h)
  | .c v :: l, h => by
    cases h with
    | tail _ h => exact slots_mem (l := l) h

theorem fcode_refs {o : AOp} {c : Nat} {l : List Rf} (h : fcode o = some (c, l)) : ∀ x ∈ l, x ∈ o.refs := by
  unfold fcode at h
  split at h <;> first
    | (cases h; done)
    | (cases h; intro x hx; simpa [AOp.refs, oslot] using hx)

theorem fcode_cls {o : AOp} {c : Nat} {l : List Rf} (h : fcode o = some (c, l)) : cls o ≤ 1 := by
  unfold fcode at h
  split at h <;> first
    | (cases h; done)
    | (simp [cls])

variable {fact : Nat → List AV → Option AV}

theorem xopE_congr {ρ ρ' : Rf → AV} (o : AOp) (h : ∀ x ∈ o.refs, ρ x = ρ' x) (hp : AH) : xopE fact ρ o hp = xopE fact ρ' o hp := by
  unfold xopE
  cases hc : fcode o with
  | none => exact xop_congr o h hp
  | some cl =>
    obtain ⟨c, l⟩ := cl
    simp only [refs_congr fun x hx => h x (fcode_refs hc x hx), xop_congr o h hp]

theorem xop_ev {t t' : Tr AV} (o : AOp) (h : ∀ x ∈ slots o.refs, ev t (.t x) = ev t' (.t x)) (hp : AH) : xop (ev t) o hp = xop (ev t') o hp := by
  refine xop_congr o (fun x hx => ?_) hp
  cases x with
  | t n => exact h n (slots_mem hx)
  | c v => rfl

theorem xopE_ev {t t' : Tr AV} (o : AOp) (h : ∀ x ∈ slots o.refs, ev t (.t x) = ev t' (.t x)) (hp : AH) : xopE fact (ev t) o hp = xopE fact (ev t') o hp := by
  refine xopE_congr o (fun x hx => ?_) hp
  cases x with
  | t n => exact h n (slots_mem hx)
  | c v => rfl

theorem want_ev {t t' : Tr AV} (o : AOper) (h : ∀ x ∈ o.looks, ev t (.t x) = ev t' (.t x)) : want fact t o.g = want fact t' o.g := by
  unfold AOper.looks at h
  cases hg : o.g with
  | none => rfl
  | some gw =>
    obtain ⟨g, w⟩ := gw
    rw [hg] at h
    simp only [want, h g (.head _)]

theorem looks_refs {o : AOper} {x : Nat} (h : x ∈ slots o.o.refs) : x ∈ o.looks := by
  unfold AOper.looks
  cases o.g with
  | none => exact h
  | some gw => exact .tail _ h

/-! ### What an operation touches -/

theorem toNx_cases {h h' : AH} {r : Option AV} {nx : Nx} (e : toNx h r = .ok nx h') : h' = h ∧ ∃ v, nx = .v v ∧ r = some v := by
  obtain ⟨a, ha, rfl, rfl⟩ := toNx_inv e
  exact ⟨rfl, a, rfl, ha⟩

theorem hnewK {h h' : AH} {ob : AO} {f : Nat → AV} {nx : Nx} (e : (hnew h ob fun id h => (.ok (.v (f id)) h : Res Nx)) = .ok nx h') : nx = .v (f h.nx) ∧ h' = ⟨h.nx + 1, h.o.set h.nx ob⟩ := by
  rw [hnew_eq] at e
  obtain ⟨rfl, rfl⟩ := ok_inj e
  exact ⟨rfl, rfl⟩


set_option maxHeartbeats 4000000 in
theorem cls0_inv {ρ : Rf → AV} {o : AOp} (hc : cls o = 0) {h h' : AH} {nx : Nx} (hx : xop ρ o h = .ok nx h') : h' = h ∧ ∃ v, nx = .v v ∧ ∀ h2, xop ρ o h2 = .ok (.v v) h2 := by
  cases o with
  | bin op e x y =>
    obtain ⟨rfl, v, rfl, hr⟩ := toNx_cases hx
    exact ⟨rfl, v, rfl, fun h2 => by simp only [xop, hr, toNx]⟩
  | un op x =>
    obtain ⟨rfl, v, rfl, hr⟩ := toNx_cases hx
    exact ⟨rfl, v, rfl, fun h2 => by simp only [xop, hr, toNx]⟩
  | cvi k x =>
    simp only [xop] at hx
    split at hx
    · rename_i e
      obtain ⟨rfl, v, rfl, hr⟩ := toNx_cases hx
      exact ⟨rfl, v, rfl, fun h2 => by simp only [xop, e, hr, toNx]⟩
    · cases hx
  | mv | pick | build | nck | cvid | cvis | mki | mkf | slS | slA | fa | iaA | iaL | ixS | ixA | fld | tas | xt | lenc | cap | mnx | ibs =>
    simp only [xop, natK_eq, natsK_eq, listK_eq] at hx
    repeat' split at hx
    all_goals first
      | (cases hx; done)
      | (obtain ⟨rfl, rfl⟩ := ok_inj hx; exact ⟨rfl, _, rfl, fun h2 => by simp only [xop, natK_eq, natsK_eq, listK_eq, *]⟩)
      | (obtain ⟨rfl, v, rfl, hr⟩ := toNx_cases hx; exact ⟨rfl, v, rfl, fun h2 => by simp only [xop, toNx, *]⟩)
  | _ => cases hc

set_option maxHeartbeats 4000000 in
theorem cls1_inv {ρ : Rf → AV} {o : AOp} (hc : cls o ≤ 1) {h h' : AH} {nx : Nx} (hx : xop ρ o h = .ok nx h') : h' = h ∧ ∃ v, nx = .v v := by
  rcases Nat.lt_or_ge (cls o) 1 with hlt | hge
  · obtain ⟨e, v, e2, _⟩ := cls0_inv (by omega : cls o = 0) hx
    exact ⟨e, v, e2⟩
  · have h1 : cls o = 1 := by omega
    cases o with
    | ld | cvbs | slL | lk | ent | len =>
      simp only [xop, natK_eq, natsK_eq] at hx
      repeat' split at hx
      all_goals first
        | (cases hx; done)
        | (obtain ⟨rfl, rfl⟩ := ok_inj hx; exact ⟨rfl, _, rfl⟩)
        | (obtain ⟨rfl, v, rfl, hr⟩ := toNx_cases hx; exact ⟨rfl, v, rfl⟩)
    | _ => cases h1

theorem cls0E_inv {ρ : Rf → AV} {o : AOp} (hc : cls o = 0) {h h' : AH} {nx : Nx} (hx : xopE fact ρ o h = .ok nx h') : h' = h ∧ ∃ v, nx = .v v ∧ ∀ h2, xopE fact ρ o h2 = .ok (.v v) h2 := by
  unfold xopE at hx ⊢
  cases hf : fcode o with
  | none => simp only [hf] at hx ⊢; exact cls0_inv hc hx
  | some cl =>
    obtain ⟨c, l⟩ := cl
    simp only [hf] at hx ⊢
    cases hv : fact c (refs ρ l) with
    | none => simp only [hv] at hx ⊢; exact cls0_inv hc hx
    | some v =>
      simp only [hv] at hx ⊢
      obtain ⟨rfl, rfl⟩ := ok_inj hx
      exact ⟨rfl, v, rfl, fun _ => rfl⟩

theorem cls1E_inv {ρ : Rf → AV} {o : AOp} (hc : cls o ≤ 1) {h h' : AH} {nx : Nx} (hx : xopE fact ρ o h = .ok nx h') : h' = h ∧ ∃ v, nx = .v v := by
  unfold xopE at hx
  split at hx
  · exact cls1_inv hc hx
  · split at hx
    · exact cls1_inv hc hx
    · obtain ⟨rfl, rfl⟩ := ok_inj hx
      exact ⟨rfl, _, rfl⟩

theorem xopE_float {ρ : Rf → AV} {o : AOp} (hf : floaty o = true) (h : AH) : xopE fact ρ o h = xop ρ o h := by
  unfold xopE
  cases o <;> first | rfl | (cases hf; done)

theorem float_form {ρ : Rf → AV} {o : AOp} (hf : floaty o = true) {c : Nat} {o1 : Tr AO} {nx : Nx} {h' : AH} (hx : xop ρ o ⟨c, o1⟩ = .ok nx h') :
    ∃ v ob, nx = .v v ∧ h' = ⟨c + 1, o1.set c ob⟩ ∧ ob.live = true ∧ ∀ o2, xop ρ o ⟨c, o2⟩ = .ok (.v v) ⟨c + 1, o2.set c ob⟩ := by
  cases o with
  | alloc z =>
    obtain ⟨rfl, rfl⟩ := hnewK (f := fun id => .p id 0) hx
    exact ⟨_, _, rfl, rfl, rfl, fun o2 => by simp only [xop, hnew_eq]⟩
  | mkm =>
    obtain ⟨rfl, rfl⟩ := hnewK (f := fun id => .m id) hx
    exact ⟨_, _, rfl, rfl, rfl, fun o2 => by simp only [xop, hnew_eq]⟩
  | bsl n z ps =>
    simp only [xop] at hx
    split at hx
    · rename_i l e
      obtain ⟨rfl, rfl⟩ := hnewK (f := fun id => .sl id 0 n (.ex n)) hx
      exact ⟨_, _, rfl, rfl, rfl, fun o2 => by simp only [xop, e, hnew_eq]⟩
    · cases hx
  | _ => cases hf

theorem row_RO {l : List AV} {vs : Array Value} {G' : Gm} (b : Nat) (ty : TypeId) (hl : RL Θ G l vs.toList) (e : Ext G G') : RO P Θ G' (some (.cells vs ty)) ⟨b, 0, vs.size⟩ (row l) := by
  refine ⟨vs, ty, (0, 0), rfl, ?_⟩
  have hlen : l.length = vs.size := by simpa using hl.1
  refine ⟨by simp, by simp [hlen], fun _ => hlen.symm, fun off v hv => ?_, fun _ off _ => by simp⟩
  have := row_get l off v hv
  obtain ⟨c, h1, h2⟩ := hl.get this
  exact ⟨c, by simpa using h1, h2.ext e⟩

theorem cCall_floaty {c : Call} {ao : AOp} (h : cCall P c = some ao) (hf : floaty ao = true) : False := by
  have B : ∀ {α β : Type} {x : Option α} {f : α → Option β} {b : β}, (x >>= f) = some b → ∃ a, x = some a ∧ f a = some b := fun h => Option.bind_eq_some_iff.1 h
  unfold cCall at h
  obtain ⟨args, _, h⟩ := B h
  repeat' split at h
  all_goals first
    | (cases h; cases hf; done)
    | (cases h; done)
    | (obtain ⟨x, _, h⟩ := B h; cases h; cases hf; done)
    | (obtain ⟨x, _, h⟩ := B h; obtain ⟨y, _, h⟩ := B h; cases h; cases hf; done)
    | (obtain ⟨fn, _, h⟩ := B h
       repeat' split at h
       all_goals first
         | (cases h; cases hf; done)
         | (cases h; done))

def Floats (P : Program) (op : Op) (ao : AOp) : Prop :=
  (∃ t z, op = .alloc t ∧ ao = .alloc z ∧ cZeroCells P t = some z) ∨ (∃ t, op = .makeMap t none ∧ ao = .mkm) ∨
  (∃ t e len ps z qs, op = .buildSlice t len ps ∧ ao = .bsl len z qs ∧ P.underlying t = some (.slice e) ∧ cZeroOf P e = some z ∧ ¬ len * z.length > 2 ^ 24 ∧ cParts (fun i => some (i * z.length, z.length)) ps.toList = some qs)

theorem cOp_floaty {op : Op} {ao : AOp} (hc : cOp? P op = some ao) (hf : floaty ao = true) : Floats P op ao := by
  have B : ∀ {α β : Type} {x : Option α} {f : α → Option β} {b : β}, (x >>= f) = some b → ∃ a, x = some a ∧ f a = some b := fun h => Option.bind_eq_some_iff.1 h
  unfold cOp? at hc
  split at hc
  case h_4 => obtain ⟨z, h1, hc⟩ := B hc; cases hc; exact .inl ⟨_, _, rfl, rfl, h1⟩
  case h_7 =>
    split at hc
    · rename_i hu
      obtain ⟨z, h1, hc⟩ := B hc
      split at hc
      · cases hc
      · rename_i h2
        obtain ⟨q, h3, hc⟩ := B hc; cases hc
        exact .inr (.inr ⟨_, _, _, _, _, _, rfl, rfl, hu, h1, h2, h3⟩)
    · cases hc
  case h_16 => cases hc; exact .inr (.inl ⟨_, rfl, rfl⟩)
  all_goals exfalso
  all_goals first
    | (exact cCall_floaty hc hf)
    | (cases hc; done)
    | (repeat (obtain ⟨_, _, hc⟩ := B hc)
       first
         | (cases hc; cases hf; done)
         | (cases hc; done)
         | (repeat' split at hc
            all_goals first
              | (cases hc; cases hf; done)
              | (cases hc; done)
              | (repeat (obtain ⟨_, _, hc⟩ := B hc)
                 first
                   | (cases hc; cases hf; done)
                   | (split at hc <;> first
                       | (cases hc; cases hf; done)
                       | (cases hc; done)
                       | (repeat (obtain ⟨_, _, hc⟩ := B hc)
                          cases hc; cases hf; done)))))

/-- The one that floats, in the program. -/
theorem float_sound (hΘ : Thin Θ) {ρ : Rf → AV} {ρc : Operand → Value} {o : Oper} {c : Nat} {v : AV} {ob : AO} (hf : floaty (cOp P o.op) = true) (hob : ∀ o2, xop ρ (cOp P o.op) ⟨c, o2⟩ = .ok (.v v) ⟨c + 1, o2.set c ob⟩)
    (hρ : RRef Θ G ρ ρc) (w : World) : ∃ cob cv size, (execOp ρc o).run P w = .ok (.value cv) (w.alloc cob) ∧
      ∀ G', Ext G G' → G' c = some ⟨w.heap.size, 0, size⟩ → RV Θ G' v cv ∧ RO P Θ G' (some cob) ⟨w.heap.size, 0, size⟩ ob := by
  have hget : ∀ {ob' : AO} {t : Tr AO}, t = Tr.set Tr.e c ob → (Tr.set Tr.e c ob').get c = t.get c → ob' = ob := by
    intro ob' t ht h
    subst ht
    simpa [Tr.get_set] using h
  unfold cOp at hf hob
  cases hc : cOp? P o.op with
  | none => rw [hc] at hf; cases hf
  | some ao =>
    rw [hc] at hf hob
    simp only [Option.getD_some] at hf hob
    rcases cOp_floaty hc hf with ⟨t, z, ho, rfl, h1⟩ | ⟨t, ho, rfl⟩ | ⟨t, e, len, ps, z, qs, ho, rfl, h0, h1, h2, h3⟩
    · obtain ⟨e1, e2⟩ := hnewK (f := fun id => .p id 0) (hob .e)
      injection e1 with e1; subst e1
      injection e2 with _ e2
      have := hget e2.symm rfl; subst this
      obtain ⟨zv, hv, hz⟩ := cZeroCells_sound (G := G) hΘ h1
      refine ⟨.cells zv.cells t, .pointer (some ((⟨w.heap.size, 0, zv.cells.size⟩ : Loc).at 0)), zv.cells.size, ?_, fun G' e hG => ⟨.p (L := ⟨w.heap.size, 0, zv.cells.size⟩) 0 hG, row_RO _ _ hv e⟩⟩
      simp [execOp, ho, Instr.alloc, hz, newVar, newRow, Loc.at]
    · obtain ⟨e1, e2⟩ := hnewK (f := fun id => .m id) (hob .e)
      injection e1 with e1; subst e1
      injection e2 with _ e2
      have := hget e2.symm rfl; subst this
      refine ⟨.map #[] 0, .map (some w.heap.size), 0, ?_, fun G' e hG => ⟨.m (L := ⟨w.heap.size, 0, 0⟩) hG, ⟨#[], rfl, rfl, fun i e c he => by simp at he⟩⟩⟩
      simp [execOp, ho, Instr.makeMap]
    · have hx := hob .e
      simp only [xop] at hx
      split at hx
      · rename_i l hl
        obtain ⟨e1, e2⟩ := hnewK (f := fun id => .sl id 0 len (.ex len)) hx
        injection e1 with e1; subst e1
        injection e2 with _ e2
        have := hget e2.symm rfl; subst this
        obtain ⟨z1, z2, z3⟩ := cZeroOf_inv h1
        obtain ⟨zv, hz, hzr⟩ := cZeroCells_sound (Θ := Θ) (G := G) hΘ z1
        have hzl : z.length = zv.cells.size := by simpa using hz.1
        have hcells : ∃ zc : Array Value, ((len * z.length = 0 ∧ zc = #[]) ∨ (¬ len * z.length = 0 ∧ zc = zv.cells)) ∧ RL Θ G (repl len z) ((Array.range (len * z.length)).map (fun i => zc[i % zc.size]!)).toList := by
          by_cases c : len * z.length = 0
          · have : len = 0 := by
              rcases Nat.mul_eq_zero.1 c with h | h
              · exact h
              · omega
            subst this
            exact ⟨#[], .inl ⟨c, rfl⟩, by simp [repl]; exact RL.nil⟩
          · exact ⟨zv.cells, .inr ⟨c, rfl⟩, hz.repl len _ (by rw [hzl])⟩
        obtain ⟨zc, hc1, hc2⟩ := hcells
        obtain ⟨cs, hf, hr⟩ := fill_sound hΘ hρ h3 hc2 hl
        refine ⟨.cells cs e, .slice (some ((⟨w.heap.size, 0, cs.size⟩ : Loc).at 0)) len len, cs.size, ?_, fun G' e hG => ⟨.sle (L := ⟨w.heap.size, 0, cs.size⟩) 0 len len hG, row_RO _ _ hr e⟩⟩
        have hb : (Instr.buildSlice t len (ps.map fun (i, x) => (i, ρc x))).run P w = .ok (.slice (some ⟨w.heap.size, 0, none⟩) len len) (w.alloc (.cells cs e)) := by
          unfold Instr.buildSlice
          simp only [Sem.run_bind, run_underlying h0, Result.andThen_ok, run_size z2]
          rw [if_neg h2]
          have hf' : Instr.fill (fun i => some (i * z.length, z.length)) ((Array.range (len * z.length)).map (fun i => zc[i % zc.size]!)) (ps.map fun (i, x) => (i, ρc x)).toList = some cs := by
            rw [Array.toList_map]; exact hf
          rcases hc1 with ⟨c, rfl⟩ | ⟨c, rfl⟩
          · rw [if_pos c]
            simp only [Sem.run_bind, Sem.run_pure, Result.andThen_ok]
            rw [hf']
            simp [newRow]
          · rw [if_neg c]
            simp only [Sem.run_bind, Sem.run_pure, hzr, Result.andThen_ok]
            rw [hf']
            simp [newRow]
        simp only [execOp, ho, Sem.run_bind, hb, Result.andThen_ok]
        simp [Loc.at]
      · cases hx

end Go.Proofs.YtmlfcopllfdjfaaGreat.Am
