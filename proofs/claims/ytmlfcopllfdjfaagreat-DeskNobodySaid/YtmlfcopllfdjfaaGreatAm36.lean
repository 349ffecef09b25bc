/- An abstract machine for the program's code, and that it is sound: part Am36. -/
import Derived.Test.YtmlfcopllfdjfaaGreatAm35
namespace Go.Proofs.YtmlfcopllfdjfaaGreat.Am
open Go.RowKit Go.ChangeShapes Go.WideShapes

section
variable {P : Program} {Θ : Th}

/-- A world in which all that was there is as it was. -/
theorem Next.later {G : Gm} {h : AH} {w w' : World} (r : RH P Θ G h w) (f : Fix w w') : Next P Θ G h w G h w' := by
  have hb : ∀ id o L, h.o.get id = some o → o.live = true → G id = some L → w'.heap[L.blk]? = w.heap[L.blk]? := fun id o L ho hl hL => f.heap _ (r.blk_lt ho hl hL) _root_.id
  refine .of r (.refl G) (fun hfx hhi => ⟨fun id o ho hl => ?_, r.inj, r.bound, r.fresh, hfx, hhi⟩) ⟨f.size, fun b hlt _ => f.heap b hlt _root_.id, f.os, f.output, f.tape⟩ ⟨fun _ h => .inl h, fun _ h => .inl h⟩ (Nat.le_refl _) fun _ _ => rfl
  obtain ⟨L, h1, h2⟩ := r.obj id o ho hl
  exact ⟨L, h1, by rw [hb id o L ho hl h1]; exact h2⟩

theorem Fix.below {w w' : World} (f : Fix w w') : Below w.heap.size w w' := ⟨f.os, f.tape, f.output, f.size, fun b hb => f.heap b hb _root_.id⟩

theorem Next.fix0 {G G' : Gm} {h h' : AH} {w w' : World} (n : Next P Θ G h w G' h' w') (hc : ∀ b, ¬ Live G h b) : Fix w w' :=
  ⟨n.stay.size, fun b hb _ => n.stay.heap b hb (hc b), n.stay.os, n.stay.output, n.stay.tape⟩

theorem Cold.live {G : Gm} {h : AH} (c : Cold h) (b : Nat) : ¬ Live G h b := fun ⟨i, o, _, ho, hw, _⟩ => by rw [c i o ho] at hw; cases hw

/-! ### Closed runs -/

/-- Calls without arguments whose answer is known. -/
def closedExt (tab : List (Nat × Bool)) (f : Nat) (args : List AV) (h : AH) : Option (AV × AH) := match args with
  | [] => match tab.find? fun x => Nat.beq x.1 f with
    | some x => some (.b x.2, h)
    | none => none
  | _ => none

/-- Does the run without arguments answer so? -/
def runsB (env : Env) (n f : Nat) (x : Bool) : Bool := match evalF env n f [] ⟨0, .e⟩ with
  | .ok (.b y) _ => x == y
  | _ => false

theorem closedExt_ok {fn : Nat → Option AF} (hfn : ∀ f af, fn f = some af → cFun P f = some af) (hmix : P.follows .mixedOrders = true) {tab : List (Nat × Bool)} (h : ∀ x ∈ tab, ∃ n, (fn x.1).isSome = true ∧ runsB (Env.of fn) n x.1 x.2 = true) :
    ExtOK P Θ (closedExt tab) := by
  intro f args h0 v h0' e
  unfold closedExt at e
  split at e
  · split at e
    · rename_i x hx
      cases e
      have hf : x.1 = f := Nat.eq_of_beq_eq_true (by simpa using List.find?_some hx)
      obtain ⟨n, hs, hr⟩ := h x (List.mem_of_find?_eq_some hx)
      rw [hf] at hs hr
      obtain ⟨af, haf⟩ := Option.isSome_iff_exists.1 hs
      refine ⟨⟨af, hfn _ _ haf⟩, fun G w cargs r ha => ?_⟩
      unfold runsB at hr
      split at hr
      · rename_i y h' e
        have hy : x.2 = y := by simpa using hr
        let Θ' : Th := ⟨fun _ => .bool true, w⟩
        refine (calls_of_evalF (Θ := Θ') (G := G0) (w := w) (cargs := cargs) (fun _ => rfl) (EnvOK.of hfn) hmix e (RH.zero (.refl w _)) ?_).mono fun e w' ⟨G', v', he, hv, n1⟩ => ?_
        · exact ⟨ha.1, fun i x y hx => by simp at hx⟩
        · have hf := n1.fix0 fun b ⟨_, _, _, _, _, hL, _⟩ => by cases hL
          cases hv
          exact ⟨G, .bool y, he, by rw [hy]; exact .b y, Next.later r hf⟩
      · cases hr
    · cases e
  · cases e

end

/-! ### A law at any arguments -/

/-- An argument. -/
def ShV (P : Program) (h : AH) (n : Nat) (t : TypeId) (av : AV) : Prop := match P.underlying t with
  | some (.struct _) => ∃ L, av = .ag L ∧ Sh P h n t L
  | _ => Sh P h n t [av]

section
variable {H : Type} {enc : TypeId × Value → H} {P : Program} {Θ : Th}

theorem ShV.keep {h h' : AH} (k : Keep h h') {n : Nat} {t : TypeId} {av : AV} (s : ShV P h n t av) : ShV P h' n t av := by
  unfold ShV at s ⊢
  split at s
  · rename_i fs hu; obtain ⟨L, e, s⟩ := s; exact ⟨L, e, s.keep k⟩
  · exact s.keep k

theorem open_args (n : Nat) (base : Nat) : ∀ {ts : List TypeId} {vs : List Value} {ds : List (DataW H)} {ps : List MemPlace}, DataW.TrodAll enc P Θ.W 0 (fun _ => true) true ts vs ds ps → (∀ t ∈ ts, plainT P n t = true) →
    (∀ (j : Nat) t v, ts[j]? = some t → vs[j]? = some v → Value.okWide P Θ.W .any base t v) →
    ∀ G h, RH P Θ G h Θ.W → Cold h → ∃ G' h' avs, Opened P Θ G h G' h' ∧ RL Θ G' avs vs ∧ avs.length = ts.length ∧ ∀ (j : Nat) t av, ts[j]? = some t → avs[j]? = some av → ShV P h' n t av
  | [], vs, ds, ps, ht, _, _, G, h, r, c => by
    obtain ⟨rfl, _⟩ := trodAll_nil ht
    exact ⟨G, h, [], .refl r c, RL.nil, rfl, fun j t av hj => by simp at hj⟩
  | t :: ts, vs, ds, ps, ht, hp, hw, G, h, r, c => by
    obtain ⟨v, vs', d, ds', p, q, rfl, rfl, rfl, ⟨fuel, h1⟩, h2⟩ := trodAll_cons ht
    obtain ⟨G1, h1', L, o1, r1, s1, l1⟩ := open_cells n fuel t _ d p h1 (hp t (.head _)) G h r c
    obtain ⟨G2, h2', avs, o2, r2, l2, s2⟩ := open_args n base h2 (fun t ht => hp t (.tail _ ht)) (fun j t v h1 h2 => hw (j + 1) t v (by simpa using h1) (by simpa using h2)) G1 h1' o1.rh o1.cold
    have hok := hw 0 t v rfl rfl
    have hav : ∃ av, RV Θ G1 av v ∧ ShV P h1' n t av := by
      unfold Value.okWide at hok
      unfold ShV
      split at hok
      · rename_i fs hu
        obtain ⟨cs, rfl, _⟩ := hok
        rw [hu]
        exact ⟨.ag L, RL.ag_iff.2 r1, L, rfl, s1⟩
      · rename_i hu
        exfalso
        cases n with
        | zero => exact s1
        | succ n => unfold Sh at s1; rw [hu] at s1; exact s1
      · rename_i hns hna
        have hone := cell_one hok
        have hcells : v.cells.toList = [v] := by
          cases v <;> first | rfl | (simp [Value.oneCell'] at hone)
        rw [hcells] at r1
        have hlen := r1.1
        match L, hlen with
        | [x], _ =>
          refine ⟨x, ?_, ?_⟩
          · obtain ⟨y, b', e1, e2, _⟩ := r1.cons_inv
            cases e1; exact e2
          · split
            · rename_i fs hu; exact absurd hu (hns fs)
            · exact s1
    obtain ⟨av, hrv, hsv⟩ := hav
    refine ⟨G2, h2', av :: avs, o1.trans o2, RL.cons (hrv.ext o2.ext) r2, by simp [l2], fun j u av' hj hv => ?_⟩
    cases j with
    | zero => simp at hj hv; subst hj; subst hv; exact hsv.keep o2.keep
    | succ j => exact s2 j u av' (by simpa using hj) (by simpa using hv)

theorem callsTrue_of_wF {env : Env} {f : Nat} {fn : Func} (n : Nat) (henv : ∀ Θ, EnvOK P Θ env) (hmix : P.follows .mixedOrders = true) (hp : fn.params.toList.all (plainT P n) = true)
    (w : ∀ (h : AH) (avs : List AV), (∀ i, h.nx ≤ i → h.o.get i = none) → avs.length = fn.params.size → (∀ (j : Nat) t av, fn.params[j]? = some t → avs[j]? = some av → ShV P h n t av) → wF env f avs h fun v _ => v = .b true) : CallsTrue enc P f fn := by
  intro W base args ds ps hval hA
  let Θ : Th := ⟨fun _ => .bool true, W⟩
  obtain ⟨G, h, avs, o, r, hl, s⟩ := open_args (Θ := Θ) (enc := enc) (P := P) n base hA (fun t ht => List.all_eq_true.1 hp t ht) (fun j t v h1 h2 => hval j t v (by simpa using h1) (by simpa using h2)) G0 ⟨0, .e⟩ (RH.zero (.refl W _)) (fun i o e => by
    have : (Tr.e : Tr AO).get i = none := by cases i <;> rfl
    rw [show (⟨0, .e⟩ : AH).o.get i = none from this] at e; cases e)
  obtain ⟨m, v, h', e, rfl⟩ := w h avs o.rh.fresh (by simpa using hl) (fun j t av h1 h2 => s j t av (by simpa using h1) h2)
  refine (calls_of_evalF (n := m) (f := f) (Θ := Θ) (fun _ => rfl) (henv Θ) hmix e o.rh r).mono fun e W' ⟨G', v', he, hv, n1⟩ => ?_
  cases hv
  exact ⟨he, (n1.fix0 fun b => o.cold.live b).below⟩

end
end Go.Proofs.YtmlfcopllfdjfaaGreat.Am
