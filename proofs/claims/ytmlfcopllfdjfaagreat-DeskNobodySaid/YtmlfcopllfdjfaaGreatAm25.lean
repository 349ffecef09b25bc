/- An abstract machine for the program's code, and that it is sound: part Am25. -/
import Derived.Test.YtmlfcopllfdjfaaGreatAm24
namespace Go.Proofs.YtmlfcopllfdjfaaGreat.Am
variable {P : Program} {Θ : Th} {G : Gm}

section
variable {C : AC → Fr → AH → Res (AJ × Fr)} {env : Env}

/-- All that is known of the run along a plan. -/
structure Run (P : Program) (ops : Array Oper) (env : Env) (C : AC → Fr → AH → Res (AJ × Fr)) (n id fl : Nat) (l : List AOper) (anc : List Nat) (plan : List (Bool × Nat)) (t0 T : Tr AV) (hs : Nat → AH) : Prop where
  len : l.length = ops.size
  at_ : ∀ i, i < ops.size → ops[i]? = some (ops.getD i default) ∧ l[i]? = some (cOper P ops (ops.getD i default))
  dst : ∀ (i j : Nat) (o o' : AOper) (d : Nat), l[i]? = some o → l[j]? = some o' → o.d = some d → o'.d = some d → i = j
  all : ∀ i, i < ops.size → (true, i) ∈ plan
  ent : ∀ p1 b i p2, plan = p1 ++ (b, i) :: p2 → ∃ o, l[i]? = some o ∧
      (∀ x ∈ o.looks, ∀ j oj, l[j]? = some oj → oj.d = some x → isAnc anc j i = true ∨ (isAnc anc i j = true ∧ (true, j) ∉ p1)) ∧
      (b = true → (true, i) ∉ p1 ∧ ∀ j, isAnc anc j i = true → (true, j) ∈ p1) ∧
      (b = false → clsAt l i = 1 ∧ (true, i) ∈ p1)
  fact : ∀ p1 b i p2, plan = p1 ++ (b, i) :: p2 → ∃ o te, l[i]? = some o ∧
        (∀ x, (Lays l p1 x → ev te (.t x) = ev T (.t x)) ∧ (¬ Lays l p1 x → ev te (.t x) = ev t0 (.t x))) ∧
        FactE env C n id fl o b i te T (hs (spn l p1)) (hs (spn l p1 + if b && Nat.ble 2 (cls o.o) then 1 else 0))
  out : ∀ x, ¬ Lays l plan x → ev T (.t x) = ev t0 (.t x)
  flt : ∀ o, l[fl]? = some o → floaty o.o = true
  spok : spineOk anc fl (spineOf l plan) = true
  reads : ∀ i, i < ops.size → clsAt l i = 1 → floatRead anc fl i (spineOf l plan) = true ∧ readOk l anc fl (spineOf l plan) (segsOf l i plan 0) i [] (spineOf l plan) 0 = true
  h0 : (hs 0).nx = id + 1

variable {ops : Array Oper} {n id fl : Nat} {l : List AOper} {anc : List Nat} {plan : List (Bool × Nat)} {t0 T : Tr AV} {hs : Nat → AH}

def LaysS (l : List AOper) (S : List Nat) (x : Nat) : Prop := ∃ j o, j ∈ S ∧ l[j]? = some o ∧ o.d = some x

def Agree (l : List AOper) (t0 T : Tr AV) (S : List Nat) (tS : Tr AV) : Prop :=
  ∀ x, (LaysS l S x → ev tS (.t x) = ev T (.t x)) ∧ (¬ LaysS l S x → ev tS (.t x) = ev t0 (.t x))

theorem Run.same (R : Run P ops env C n id fl l anc plan t0 T hs) {S : List Nat} {tS : Tr AV} (hA : Agree l t0 T S tS) (hc : Closed anc S) {i : Nat} (hi : i ∉ S) (hanc : ∀ j, isAnc anc j i = true → j ∈ S)
    {p1 p2 : List (Bool × Nat)} {b : Bool} (hp : plan = p1 ++ (b, i) :: p2) {o : AOper} (ho : l[i]? = some o) {te : Tr AV}
    (hte : ∀ x, (Lays l p1 x → ev te (.t x) = ev T (.t x)) ∧ (¬ Lays l p1 x → ev te (.t x) = ev t0 (.t x))) : ∀ x ∈ o.looks, ev tS (.t x) = ev te (.t x) := by
  intro x hx
  obtain ⟨o', ho', hlk, ht, hf⟩ := R.ent p1 b i p2 hp
  rw [ho] at ho'; cases ho'
  by_cases hj : ∃ (j : Nat) (oj : AOper), l[j]? = some oj ∧ oj.d = some x
  · obtain ⟨j, oj, hj, hd⟩ := hj
    rcases hlk x hx j oj hj hd with h | ⟨h, h'⟩
    · have hp1 : (true, j) ∈ p1 := by
        cases b with
        | true => exact (ht rfl).2 j h
        | false =>
          obtain ⟨q, r, rfl⟩ := List.append_of_mem (hf rfl).2
          obtain ⟨_, _, _, ht', _⟩ := R.ent q true i (r ++ (false, i) :: p2) (by rw [hp]; simp)
          exact List.mem_append_left _ ((ht' rfl).2 j h)
      rw [(hA x).1 ⟨j, oj, hanc j h, hj, hd⟩, (hte x).1 ⟨j, oj, hp1, hj, hd⟩]
    · rw [(hA x).2, (hte x).2]
      · rintro ⟨j', oj', hm, hj', hd'⟩
        have := R.dst j' j oj' oj x hj' hj hd' hd
        subst this; exact h' hm
      · rintro ⟨j', oj', hm, hj', hd'⟩
        have := R.dst j' j oj' oj x hj' hj hd' hd
        subst this; exact hi (hc j' hm i h)
  · rw [(hA x).2 (fun ⟨j, oj, _, h1, h2⟩ => hj ⟨j, oj, h1, h2⟩), (hte x).2 (fun ⟨j, oj, _, h1, h2⟩ => hj ⟨j, oj, h1, h2⟩)]

theorem split_eq {α : Type} {x : α} : ∀ {p1 p2 q1 q2 : List α}, p1 ++ x :: p2 = q1 ++ x :: q2 → x ∉ p1 → x ∉ q1 → p1 = q1
  | [], _, [], _, _, _, _ => rfl
  | [], _, b :: q1, _, h, _, h2 => by simp at h; exact absurd (by rw [h.1]; exact .head _) h2
  | a :: p1, _, [], _, h, h1, _ => by simp at h; exact absurd (by rw [h.1]; exact .head _) h1
  | a :: p1, p2, b :: q1, q2, h, h1, h2 => by
    simp only [List.cons_append, List.cons.injEq] at h
    rw [h.1, split_eq h.2 (fun h => h1 (.tail _ h)) (fun h => h2 (.tail _ h))]

theorem Run.spine_inj (R : Run P ops env C n id fl l anc plan t0 T hs) {j k i : Nat} (h1 : (spineOf l plan)[j]? = some i) (h2 : (spineOf l plan)[k]? = some i) : j = k := by
  obtain ⟨_, p1, p2, e1, rfl⟩ := at_spine h1
  obtain ⟨_, q1, q2, e2, rfl⟩ := at_spine h2
  obtain ⟨_, _, _, a1, _⟩ := R.ent _ _ _ _ e1
  obtain ⟨_, _, _, a2, _⟩ := R.ent _ _ _ _ e2
  rw [split_eq (e1.symm.trans e2) (a1 rfl).1 (a2 rfl).1]

/-! ### The one that floats -/

def FloatS (P : Program) (Θ : Th) (w0 : World) (id : Nat) (hs : Nat → AH) (f : Nat) (G : Gm) (w : World) (h : AH) : Prop :=
  hs (f + 1) = hs f ∨ ∃ L ob cob, hs (f + 1) = ⟨(hs f).nx, (hs f).o.set id ob⟩ ∧ ob.live = true ∧ G id = some L ∧ w.heap[L.blk]? = some cob ∧ (w0.heap.size ≤ L.blk ∧ Θ.W.heap.size ≤ L.blk) ∧ L.blk < w.heap.size ∧ ¬ LiveA G h L.blk ∧
    ∀ G', Ext G G' → RO P Θ G' (some cob) L ob

theorem FloatS.step {w0 w w1 : World} {f : Nat} {G1 : Gm} {h h1 : AH} (F : FloatS P Θ w0 id hs f G w h) (nx : Next P Θ G h w G1 h1 w1) : FloatS P Θ w0 id hs f G1 w1 h1 := by
  rcases F with F | ⟨L, ob, cob, e, hl, hG, hx, h0, hlt, hn, hr⟩
  · exact .inl F
  · refine .inr ⟨L, ob, cob, e, hl, nx.ext _ _ hG, ?_, h0, Nat.lt_of_lt_of_le hlt nx.stay.size, fun hL => ?_, fun G' e' => hr G' (nx.ext.trans e')⟩
    · rw [nx.stay.heap _ hlt fun ⟨i, o, L', a1, a2, a3⟩ => hn ⟨i, o, L', a1, AO.live_of_wr a2, a3⟩]; exact hx
    · rcases nx.liveA _ hL with h | h
      · exact hn h
      · omega

theorem FloatS.merge {G0 : Gm} {h0 : AH} {w0 w : World} {f : Nat} (F : FloatS P Θ w0 id hs f G w (hs f)) (nx : Next P Θ G0 h0 w0 G (hs f) w) : Next P Θ G0 h0 w0 G (hs (f + 1)) w := by
  rcases F with F | ⟨L, ob, cob, e, hl, hG, hx, hw, hlt, hn, hr⟩
  · rw [F]; exact nx
  · rw [e]
    have hid := nx.rh.bound id L hG
    have hLv : ∀ b, Live G ⟨(hs f).nx, (hs f).o.set id ob⟩ b → Live G (hs f) b ∨ b = L.blk := fun b ⟨i, x, Li, hi, hlx, hLi, hb⟩ => by
      simp only [Tr.get_set] at hi
      by_cases e1 : i = id
      · subst e1; rw [hG] at hLi; cases hLi; exact .inr hb.symm
      · rw [if_neg e1] at hi; exact .inl ⟨i, x, Li, hi, hlx, hLi, hb⟩
    refine ⟨nx.ext, ⟨fun i x hi hlx => ?_, fun i j x y Li Lj hx' hy lx ly hwr hLi hLj e => ?_, nx.rh.bound, fun i hi => ?_, nx.rh.fix, fun b hb => (hLv b hb).elim (nx.rh.high b) fun e => e ▸ hw.2⟩, nx.stay, fun b hb => (hLv b hb).elim (nx.live b) fun e => .inr (e ▸ hw.1), fun b hb => ?_, nx.mono, nx.old⟩
    · simp only [Tr.get_set] at hi
      by_cases e1 : i = id
      · rw [if_pos e1] at hi; cases hi; subst e1
        exact ⟨L, hG, by rw [hx]; exact hr G (.refl G)⟩
      · rw [if_neg e1] at hi; exact nx.rh.obj i x hi hlx
    · simp only [Tr.get_set] at hx' hy
      by_cases e1 : i = id <;> by_cases e2 : j = id
      · rw [e1, e2]
      · rw [if_neg e2] at hy
        subst e1; rw [hG] at hLi; cases hLi
        exact absurd ⟨j, y, Lj, hy, ly, hLj, e.symm⟩ hn
      · rw [if_neg e1] at hx'
        subst e2; rw [hG] at hLj; cases hLj
        exact absurd ⟨i, x, Li, hx', lx, hLi, e⟩ hn
      · rw [if_neg e1] at hx'; rw [if_neg e2] at hy
        exact nx.rh.inj i j x y Li Lj hx' hy lx ly hwr hLi hLj e
    · have hi' : (hs f).nx ≤ i := hi
      show ((hs f).o.set id ob).get i = none
      rw [Tr.get_set, if_neg (by omega)]
      exact nx.rh.fresh i hi'
    · obtain ⟨i, x, Li, hi, hlx, hLi, rfl⟩ := hb
      simp only [Tr.get_set] at hi
      by_cases e1 : i = id
      · subst e1; rw [hG] at hLi; cases hLi
        exact .inr hw.1
      · rw [if_neg e1] at hi; exact nx.liveA _ ⟨i, x, Li, hi, hlx, hLi, rfl⟩

/-- It is made ahead of its place. -/
theorem float_new {G0 : Gm} {h0 h : AH} {w0 w : World} (nx : Next P Θ G0 h0 w0 G h w) (hid : G id = none) (h0id : h0.nx = id) (hlt : id < h.nx) (cob : Obj) (size : Nat) :
    Next P Θ G0 h0 w0 (G.put id ⟨w.heap.size, 0, size⟩) h (w.alloc cob) ∧ ¬ LiveA (G.put id ⟨w.heap.size, 0, size⟩) h w.heap.size ∧ Ext G (G.put id ⟨w.heap.size, 0, size⟩) := by
  have hext : Ext G (G.put id ⟨w.heap.size, 0, size⟩) := fun i L hL => by
    unfold Gm.put
    rw [if_neg (fun e => by rw [e, hid] at hL; cases hL)]
    exact hL
  have hput : ∀ i, i ≠ id → (G.put id ⟨w.heap.size, 0, size⟩) i = G i := fun i e => if_neg e
  have hold : ∀ b, b < w.heap.size → (w.alloc cob).heap[b]? = w.heap[b]? := fun b hb => by
    show (w.heap.push cob)[b]? = _
    rw [Array.getElem?_push, if_neg (Nat.ne_of_lt hb)]
  have hne : ∀ i o, h.o.get i = some o → o.live = true → i ≠ id := fun i o hi hl e => by
    obtain ⟨L, hL, _⟩ := nx.rh.obj i o hi hl
    rw [e, hid] at hL; cases hL
  have hsz : (w.alloc cob).heap.size = w.heap.size + 1 := by show (w.heap.push cob).size = _; simp
  have hliveA : ∀ b, LiveA (G.put id ⟨w.heap.size, 0, size⟩) h b → LiveA G h b := fun b ⟨i, o, L, hi, hl, hL, hb⟩ => ⟨i, o, L, hi, hl, (hput i (hne i o hi hl)).symm.trans hL, hb⟩
  have hlive : ∀ b, Live (G.put id ⟨w.heap.size, 0, size⟩) h b → Live G h b := fun b ⟨i, o, L, hi, hl, hL, hb⟩ => ⟨i, o, L, hi, hl, (hput i (hne i o hi (AO.live_of_wr hl))).symm.trans hL, hb⟩
  have hst : Stay w (w.alloc cob) fun _ => False := ⟨by rw [hsz]; exact Nat.le_succ _, fun b hb _ => hold b hb, rfl, rfl, rfl⟩
  refine ⟨⟨nx.ext.trans hext, ⟨fun i x hi hlx => ?_, fun i j x y Li Lj hx hy lx ly hwr hLi hLj e => ?_, fun i L hL => ?_, nx.rh.fresh, nx.rh.fix.step hst fun b h => h.elim, fun b hb => nx.rh.high b (hlive b hb)⟩, ⟨?_, fun b hb hn => ?_, nx.stay.os, nx.stay.output, nx.stay.tape⟩, fun b hb => nx.live b (hlive b hb), fun b hb => nx.liveA b (hliveA b hb), nx.mono, fun i hi => ?_⟩, fun hL => ?_, hext⟩
  · obtain ⟨L, h1, h2⟩ := nx.rh.obj i x hi hlx
    refine ⟨L, hext _ _ h1, ?_⟩
    rw [hold L.blk (nx.rh.blk_lt hi hlx h1)]
    exact h2.ext hext
  · exact nx.rh.inj i j x y Li Lj hx hy lx ly hwr ((hput i (hne i x hx lx)).symm.trans hLi) ((hput j (hne j y hy ly)).symm.trans hLj) e
  · by_cases e : i = id
    · rw [e]; exact hlt
    · exact nx.rh.bound i L ((hput i e).symm.trans hL)
  · rw [hsz]; exact Nat.le_succ_of_le nx.stay.size
  · rw [hold b (Nat.lt_of_lt_of_le hb nx.stay.size)]; exact nx.stay.heap b hb hn
  · rw [hput i (by omega)]; exact nx.old i hi
  · obtain ⟨i, o, L, hi, hl, hL', hb⟩ := hliveA _ hL
    have := nx.rh.blk_lt hi hl hL'
    rw [hb] at this
    exact Nat.lt_irrefl _ this

structure InvW (P : Program) (Θ : Th) (l : List AOper) (plan : List (Bool × Nat)) (n id fl : Nat) (t0 T : Tr AV) (hs : Nat → AH) (G0 : Gm) (h0 : AH) (w0 : World) (S : List Nat) (tS : Tr AV) (G : Gm) (w : World) (a : Act) (k : Nat) (early : Bool) : Prop where
  kM : k ≤ (spineOf l plan).length
  sp : ∀ j i, (spineOf l plan)[j]? = some i → (i ∈ S ↔ j < k ∨ (early = true ∧ i = fl))
  fk : early = true → ∃ f, (spineOf l plan)[f]? = some fl ∧ k ≤ f ∧ FloatS P Θ w0 id hs f G w (hs k)
  no : early = false → (∀ f, (spineOf l plan)[f]? = some fl → k ≤ f) → G id = none
  next : Next P Θ G0 h0 w0 G (hs k) w
  lt : id < (hs k).nx
  rt : RT Θ G n tS a.tmps
  tree : Agree l t0 T S tS

/-- Where the floating one has come to its place. -/
theorem InvW.norm (R : Run P ops env C n id fl l anc plan t0 T hs) {G0 : Gm} {h0 : AH} {w0 w : World} {S : List Nat} {tS : Tr AV} {a : Act} {k : Nat} {early : Bool} (I : InvW P Θ l plan n id fl t0 T hs G0 h0 w0 S tS G w a k early) :
    ∃ k' e', InvW P Θ l plan n id fl t0 T hs G0 h0 w0 S tS G w a k' e' ∧ (e' = true → ∀ f, (spineOf l plan)[f]? = some fl → k' < f) := by
  cases early with
  | false => exact ⟨k, false, I, fun h => by cases h⟩
  | true =>
    obtain ⟨f, hf, hkf, F⟩ := I.fk rfl
    rcases Nat.lt_or_ge k f with h | h
    · exact ⟨k, true, I, fun _ f' hf' => by rw [R.spine_inj hf' hf]; exact h⟩
    · have hk : k = f := by omega
      subst hk
      have hlen : k < (spineOf l plan).length := by
        rcases Nat.lt_or_ge k (spineOf l plan).length with h | h
        · exact h
        · rw [List.getElem?_eq_none h] at hf; cases hf
      refine ⟨k + 1, false, ⟨hlen, fun j i hj => ?_, fun h => (by cases h), fun _ h => ?_, F.merge I.next, ?_, I.rt, I.tree⟩, fun h => by cases h⟩
      · rw [I.sp j i hj]
        constructor
        · rintro (h | ⟨_, h⟩)
          · exact .inl (by omega)
          · subst h; rw [R.spine_inj hj hf]; exact .inl (by omega)
        · rintro (h | ⟨h, _⟩)
          · by_cases e : j = k
            · subst e; rw [hf] at hj; cases hj; exact .inr ⟨rfl, rfl⟩
            · exact .inl (by omega)
          · cases h
      · have := h k hf; omega
      · rcases F with F | ⟨L, ob, cob, e, _⟩
        · rw [F]; exact I.lt
        · rw [e]; exact I.lt


theorem Agree.cons {S : List Nat} {tS : Tr AV} (hA : Agree l t0 T S tS) {i : Nat} {o : AOper} (ho : l[i]? = some o) {tS' : Tr AV} {v : AV}
    (hv : ∀ d, o.d = some d → ev T (.t d) = v) (ht : ∀ y, ev tS' (.t y) = if o.d = some y then v else ev tS (.t y)) : Agree l t0 T (i :: S) tS' := by
  intro x
  by_cases hx : o.d = some x
  · refine ⟨fun _ => by rw [ht, if_pos hx, hv x hx], fun h => absurd ⟨i, o, .head _, ho, hx⟩ h⟩
  · rw [ht, if_neg hx]
    refine ⟨fun ⟨j, oj, hj, h1, h2⟩ => (hA x).1 ⟨j, oj, ?_, h1, h2⟩, fun h => (hA x).2 fun ⟨j, oj, hj, h1, h2⟩ => h ⟨j, oj, .tail _ hj, h1, h2⟩⟩
    cases hj with
    | head => rw [ho] at h1; cases h1; exact absurd h2 hx
    | tail _ hj => exact hj

/-- The tree with one slot more. -/
theorem put_tree (tS : Tr AV) (d : Option Nat) (v : AV) (hd : ∀ x, d = some x → x < n) : ∃ tS', (∀ y, ev tS' (.t y) = if d = some y then v else ev tS (.t y)) ∧ ∀ {G : Gm} {a : Act} {cv : Value}, RT Θ G n tS a.tmps → RV Θ G v cv → RT Θ G n tS' (a.put d cv).tmps := by
  cases d with
  | none => exact ⟨tS, fun y => by simp, fun h _ => h⟩
  | some d =>
    refine ⟨tS.set d v, fun y => ?_, fun h hv => h.set (hd d rfl) hv⟩
    rw [ev_set]
    by_cases e : y = d
    · subst e; simp
    · rw [if_neg e, if_neg (fun h => e (by cases h; rfl))]

/-- Where an operation of the spine can come. -/
theorem InvW.place (R : Run P ops env C n id fl l anc plan t0 T hs) {G0 : Gm} {h0 : AH} {w0 w : World} {S : List Nat} {tS : Tr AV} {a : Act} {k : Nat} {early : Bool} (I : InvW P Θ l plan n id fl t0 T hs G0 h0 w0 S tS G w a k early)
    (hst : early = true → ∀ f, (spineOf l plan)[f]? = some fl → k < f) {i j : Nat} (hj : (spineOf l plan)[j]? = some i) (hi : i ∉ S) (hanc : ∀ u, isAnc anc u i = true → u ∈ S) :
    k ≤ j ∧ (i ≠ fl → j = k) ∧ (i = fl → early = false) := by
  have h0 : ¬ (j < k ∨ (early = true ∧ i = fl)) := fun h => hi ((I.sp j i hj).2 h)
  have hkj : k ≤ j := by
    rcases Nat.lt_or_ge j k with h | h
    · exact absurd (.inl h) h0
    · exact h
  refine ⟨hkj, fun hne => ?_, fun he => ?_⟩
  · rcases Nat.lt_or_ge k j with hlt | hge
    · exfalso
      obtain ⟨j, rfl⟩ : ∃ m, j = m + 1 := ⟨j - 1, by omega⟩
      have hlen : j + 1 < (spineOf l plan).length := by
        rcases Nat.lt_or_ge (j + 1) (spineOf l plan).length with h | h
        · exact h
        · rw [List.getElem?_eq_none h] at hj; cases hj
      obtain ⟨u, hu⟩ : ∃ u, (spineOf l plan)[j]? = some u := ⟨(spineOf l plan)[j], by simp [Nat.lt_of_succ_lt hlen]⟩
      have hS := hanc u ((spineOk_inv R.spok j u i hu hj).1 hne)
      rcases (I.sp j u hu).1 hS with h | ⟨h1, h2⟩
      · omega
      · subst h2
        have hkf := hst h1 j hu
        obtain ⟨j, rfl⟩ : ∃ m, j = m + 1 := ⟨j - 1, by omega⟩
        obtain ⟨x, hx⟩ : ∃ u, (spineOf l plan)[j]? = some u := ⟨(spineOf l plan)[j]'(by omega), by simp [show j < (spineOf l plan).length by omega]⟩
        have hS' := hanc x ((spineOk_inv R.spok j x u hx hu).2 rfl i hj)
        rcases (I.sp j x hx).1 hS' with h | ⟨_, h4⟩
        · omega
        · subst h4
          have := R.spine_inj hx hu
          omega
    · omega
  · cases early with
    | false => rfl
    | true => exact absurd (.inr ⟨rfl, he⟩) h0

/-- One step on. -/
theorem InvW.adv (R : Run P ops env C n id fl l anc plan t0 T hs) {G0 : Gm} {h0 : AH} {w0 w : World} {S : List Nat} {tS : Tr AV} {a : Act} {k : Nat} {early : Bool} (I : InvW P Θ l plan n id fl t0 T hs G0 h0 w0 S tS G w a k early)
    (hst : early = true → ∀ f, (spineOf l plan)[f]? = some fl → k < f) {i k1 : Nat} (hk1 : (clsAt l i < 2 ∧ k1 = k) ∨ ((spineOf l plan)[k]? = some i ∧ k1 = k + 1)) {G1 : Gm} {w1 : World} (nx : Next P Θ G (hs k) w G1 (hs k1) w1)
    {tS' : Tr AV} {a' : Act} (ht : RT Θ G1 n tS' a'.tmps) (hA : Agree l t0 T (i :: S) tS') : InvW P Θ l plan n id fl t0 T hs G0 h0 w0 (i :: S) tS' G1 w1 a' k1 early := by
  refine ⟨?_, fun j u hu => ?_, fun he => ?_, fun he h => ?_, I.next.trans nx, Nat.lt_of_lt_of_le I.lt nx.mono, ht, hA⟩
  · rcases hk1 with ⟨_, rfl⟩ | ⟨hk, rfl⟩
    · exact I.kM
    · rcases Nat.lt_or_ge k (spineOf l plan).length with h | h
      · exact h
      · rw [List.getElem?_eq_none h] at hk; cases hk
  · rw [List.mem_cons, I.sp j u hu]
    rcases hk1 with ⟨hc, rfl⟩ | ⟨hk, rfl⟩
    · constructor
      · rintro (rfl | h)
        · have := (at_spine hu).1; omega
        · exact h
      · exact .inr
    · constructor
      · rintro (rfl | h | h)
        · exact .inl (by rw [R.spine_inj hu hk]; omega)
        · exact .inl (by omega)
        · exact .inr h
      · rintro (h | h)
        · by_cases e : j = k
          · subst e; rw [hk] at hu; cases hu; exact .inl rfl
          · exact .inr (.inl (by omega))
        · exact .inr (.inr h)
  · obtain ⟨f, hf, hkf, F⟩ := I.fk he
    have := hst he f hf
    refine ⟨f, hf, ?_, F.step nx⟩
    rcases hk1 with ⟨_, rfl⟩ | ⟨_, rfl⟩ <;> omega
  · rw [nx.old id I.lt]
    refine I.no he fun f hf => ?_
    have := h f hf
    rcases hk1 with ⟨_, rfl⟩ | ⟨_, rfl⟩ <;> omega

end
end Go.Proofs.YtmlfcopllfdjfaaGreat.Am
