/- An abstract machine for the program's code, and that it is sound: part Am23. -/
import Derived.Test.YtmlfcopllfdjfaaGreatAm22
namespace Go.Proofs.YtmlfcopllfdjfaaGreat.Am
variable {P : Program} {Θ : Th} {G : Gm}

/-! ### The run along the plan -/

def spn (l : List AOper) : List (Bool × Nat) → Nat
  | [] => 0
  | (b, i) :: p => (if b && Nat.ble 2 (clsAt l i) then 1 else 0) + spn l p

def apartOk (l : List AOper) : List (Bool × Nat) → Prop
  | [] => True
  | (true, i) :: r => (∀ j, (true, j) ∈ r → ∀ d o o', l[i]? = some o → l[j]? = some o' → o.d = some d → o'.d ≠ some d) ∧ apartOk l r
  | (false, _) :: r => apartOk l r

/-- Who lays a slot, among those done in a stretch of the plan. -/
def Lays (l : List AOper) (p : List (Bool × Nat)) (x : Nat) : Prop := ∃ j o, (true, j) ∈ p ∧ l[j]? = some o ∧ o.d = some x

section
variable {C : AC → Fr → AH → Res (AJ × Fr)} {env : Env}

/-- What is known of an entry: the slots and the heap before it, the heap behind it, the slots at the end. -/
def FactE (env : Env) (C : AC → Fr → AH → Res (AJ × Fr)) (n id fl : Nat) (o : AOper) (b : Bool) (i : Nat) (t T : Tr AV) (h h1 : AH) : Prop :=
  match b with
  | true =>
    (want env.fact t o.g = some false ∧ h1 = h ∧ ∀ d, o.d = some d → d < n ∧ ev T (.t d) = .un) ∨
    (want env.fact t o.g = some true ∧ ∃ v, (∀ d, o.d = some d → d < n ∧ ev T (.t d) = v) ∧
      ((i ≠ fl ∧ (xopE env.fact (ev t) o.o h).bind (doNx env C) = .ok v h1) ∨ (i = fl ∧ ∃ h', xopE env.fact (ev t) o.o ⟨id, h.o⟩ = .ok (.v v) h' ∧ h1 = ⟨h.nx, h'.o⟩)))
  | false => h1 = h ∧ (want env.fact t o.g = some false ∨ (want env.fact t o.g = some true ∧ ∃ d h', o.d = some d ∧ xopE env.fact (ev t) o.o h = .ok (.v (ev t (.t d))) h'))

theorem putK_inv' {α : Type} {t : Tr AV} {n : Nat} {d : Option Nat} {v : AV} {c : Tr AV → Res α} {x : α} {h : AH} (e : putK t n d v c = .ok x h) :
    ∃ t', c t' = .ok x h ∧ (∀ y, ev t' (.t y) = if d = some y then v else ev t (.t y)) ∧ ∀ d', d = some d' → d' < n := by
  cases d with
  | none => exact ⟨t, e, fun y => by simp, by simp⟩
  | some d =>
    simp only [putK] at e
    split at e
    · rename_i hlt
      have hlt : d < n := by simpa using hlt
      rw [Tr.setK_eq] at e
      refine ⟨_, e, fun y => ?_, fun d' h => by cases h; exact hlt⟩
      rw [ev_set]
      by_cases hy : y = d
      · subst hy; simp
      · rw [if_neg hy, if_neg (fun h => hy (by cases h; rfl))]
    · cases e

theorem plan_run {l : List AOper} {n id fl : Nat} {T : Tr AV} {hT : AH} : ∀ {plan : List (Bool × Nat)} {t : Tr AV} {h : AH},
    aplan env.fact (doNx env C) n id (toPI l fl plan) t h = .ok T hT → (∀ b i, (b, i) ∈ plan → ∃ o, l[i]? = some o ∧ (i = fl → b = true → 2 ≤ cls o.o) ∧ (b = false → cls o.o ≤ 1)) → apartOk l plan →
    (∀ x, ¬ Lays l plan x → ev T (.t x) = ev t (.t x)) ∧
    ∃ hs : Nat → AH, hs 0 = h ∧ hs (spn l plan) = hT ∧
      ∀ p1 b i p2, plan = p1 ++ (b, i) :: p2 → ∃ o te, l[i]? = some o ∧
        (∀ x, (Lays l p1 x → ev te (.t x) = ev T (.t x)) ∧ (¬ Lays l p1 x → ev te (.t x) = ev t (.t x))) ∧
        FactE env C n id fl o b i te T (hs (spn l p1)) (hs (spn l p1 + if b && Nat.ble 2 (cls o.o) then 1 else 0))
  | [], t, h, e, _, _ => by
    obtain ⟨rfl, rfl⟩ := ok_inj e
    exact ⟨fun x _ => rfl, fun _ => h, rfl, rfl, fun p1 b i p2 hp => by simp at hp⟩
  | (b, i) :: plan, t, h, e, hl, ha => by
    obtain ⟨o, ho, hfl, hch⟩ := hl b i (.head _)
    have hcl : clsAt l i = cls o.o := by simp [clsAt, ho]
    -- one entry
    obtain ⟨t1, h1, e1, hF, hput⟩ : ∃ t1 h1, aplan env.fact (doNx env C) n id (toPI l fl plan) t1 h1 = .ok T hT ∧
        ((∀ d, b = true → o.d = some d → ev T (.t d) = ev t1 (.t d)) → FactE env C n id fl o b i t T h h1) ∧
        (∀ x, ¬ (b = true ∧ o.d = some x) → ev t1 (.t x) = ev t (.t x)) := by
      simp only [toPI, ho] at e
      cases b with
      | false =>
        simp only [aplan] at e
        split at e
        · rename_i hw
          split at e
          · rename_i v h' d hx hd
            split at e
            · rename_i hv
              have := veq_eq _ _ hv
              subst this
              exact ⟨t, h, e, fun _ => ⟨rfl, .inr ⟨hw, d, h', hd, hx⟩⟩, fun x _ => rfl⟩
            · cases e
          · cases e
        · rename_i hw
          exact ⟨t, h, e, fun _ => ⟨rfl, .inl hw⟩, fun x _ => rfl⟩
        · cases e
      | true =>
        by_cases hif : i = fl
        · have hif' : Nat.beq i fl = true := by rw [hif]; exact Nat.beq_refl _
          simp only [hif', aplan] at e
          split at e
          · rename_i hw
            split at e
            · rename_i v h' hx
              obtain ⟨t1, e1, hev, hlt⟩ := putK_inv' e
              refine ⟨t1, _, e1, fun hT => .inr ⟨hw, v, fun d hd => ⟨hlt d hd, ?_⟩, .inr ⟨hif, h', hx, rfl⟩⟩, fun x hx => ?_⟩
              · rw [hT d rfl hd, hev, if_pos hd]
              · rw [hev, if_neg (fun h => hx ⟨rfl, h⟩)]
            · cases e
          · rename_i hw
            obtain ⟨t1, e1, hev, hlt⟩ := putK_inv' e
            refine ⟨t1, _, e1, fun hT => .inl ⟨hw, rfl, fun d hd => ⟨hlt d hd, ?_⟩⟩, fun x hx => ?_⟩
            · rw [hT d rfl hd, hev, if_pos hd]
            · rw [hev, if_neg (fun h => hx ⟨rfl, h⟩)]
          · cases e
        · have hif' : Nat.beq i fl = false := by
            cases hb : Nat.beq i fl with
            | false => rfl
            | true => exact absurd (Nat.eq_of_beq_eq_true hb) hif
          simp only [hif', aplan] at e
          split at e
          · rename_i hw
            obtain ⟨v, h2, e2, e3⟩ := bind_inv e
            obtain ⟨t1, e1, hev, hlt⟩ := putK_inv' e3
            refine ⟨t1, _, e1, fun hT => .inr ⟨hw, v, fun d hd => ⟨hlt d hd, ?_⟩, .inl ⟨hif, e2⟩⟩, fun x hx => ?_⟩
            · rw [hT d rfl hd, hev, if_pos hd]
            · rw [hev, if_neg (fun h => hx ⟨rfl, h⟩)]
          · rename_i hw
            obtain ⟨t1, e1, hev, hlt⟩ := putK_inv' e
            refine ⟨t1, _, e1, fun hT => .inl ⟨hw, rfl, fun d hd => ⟨hlt d hd, ?_⟩⟩, fun x hx => ?_⟩
            · rw [hT d rfl hd, hev, if_pos hd]
            · rw [hev, if_neg (fun h => hx ⟨rfl, h⟩)]
          · cases e
    have ha' : apartOk l plan := by cases b with
      | true => exact ha.2
      | false => exact ha
    obtain ⟨hTx, hs, hs0, hsT, hE⟩ := plan_run e1 (fun b i h => hl b i (.tail _ h)) ha'
    have hown : ∀ d, b = true → o.d = some d → ¬ Lays l plan d := by
      rintro d rfl hd ⟨j, o', hj, ho', hd'⟩
      exact ha.1 j hj d o o' ho ho' hd hd'
    have hF := hF fun d hb hd => hTx d (hown d hb hd)
    -- reads and plain ones leave the heap
    have hkeep : (b && Nat.ble 2 (cls o.o)) = false → h1 = h := by
      intro hc
      cases b with
      | false => exact hF.1
      | true =>
        have hc1 : cls o.o ≤ 1 := by
          have : ¬ (2 ≤ cls o.o) := fun h => by
            simp only [Bool.true_and] at hc
            rw [show Nat.ble 2 (cls o.o) = true by simpa using h] at hc
            cases hc
          omega
        rcases hF with ⟨_, e, _⟩ | ⟨_, v, _, ⟨_, e⟩ | ⟨hif, _⟩⟩
        · exact e
        · obtain ⟨x, h2, e2, e3⟩ := bind_inv e
          obtain ⟨rfl, v', rfl⟩ := cls1E_inv hc1 e2
          exact (ok_inj e3).2.symm
        · have := hfl hif rfl; omega
    refine ⟨fun x hx => ?_, ?_⟩
    · have h1 : ¬ Lays l plan x := fun ⟨j, o', hj, h⟩ => hx ⟨j, o', .tail _ hj, h⟩
      rw [hTx x h1, hput x (fun ⟨hb, hd⟩ => hx ⟨i, o, by rw [hb]; exact .head _, ho, hd⟩)]
    · have hspn : spn l ((b, i) :: plan) = (if b && Nat.ble 2 (cls o.o) then 1 else 0) + spn l plan := by simp only [spn, hcl]
      have hspn1 : ∀ p, spn l ((b, i) :: p) = (if b && Nat.ble 2 (cls o.o) then 1 else 0) + spn l p := fun p => by simp only [spn, hcl]
      have htree : ∀ p1 te, (∀ x, (Lays l p1 x → ev te (.t x) = ev T (.t x)) ∧ (¬ Lays l p1 x → ev te (.t x) = ev t1 (.t x))) → (∀ x, Lays l p1 x → Lays l plan x) →
          ∀ x, (Lays l ((b, i) :: p1) x → ev te (.t x) = ev T (.t x)) ∧ (¬ Lays l ((b, i) :: p1) x → ev te (.t x) = ev t (.t x)) := by
        intro p1 te hte hsub x
        constructor
        · rintro ⟨j, o', hj, ho', hd⟩
          by_cases hL : Lays l p1 x
          · exact (hte x).1 hL
          · cases hj with
            | head =>
              rw [ho] at ho'; cases ho'
              rw [(hte x).2 hL, hTx x (hown x rfl hd)]
            | tail _ hj => exact absurd ⟨j, o', hj, ho', hd⟩ hL
        · intro hL
          have h1 : ¬ Lays l p1 x := fun ⟨j, o', hj, h⟩ => hL ⟨j, o', .tail _ hj, h⟩
          rw [(hte x).2 h1, hput x (fun ⟨hb, hd⟩ => hL ⟨i, o, by rw [hb]; exact .head _, ho, hd⟩)]
      cases hc : (b && Nat.ble 2 (cls o.o)) with
      | false =>
        have hh := hkeep hc
        subst hh
        simp only [hc] at hspn hspn1
        refine ⟨hs, hs0, by rw [hspn]; simpa using hsT, ?_⟩
        intro p1 b' i' p2 hp
        cases p1 with
        | nil =>
          simp only [List.nil_append, List.cons.injEq, Prod.mk.injEq] at hp
          obtain ⟨⟨rfl, rfl⟩, rfl⟩ := hp
          refine ⟨o, t, ho, fun x => ⟨fun ⟨_, _, h, _⟩ => (by cases h), fun _ => rfl⟩, ?_⟩
          rw [hc]
          have e0 : hs (spn l [] + (if false = true then 1 else 0)) = h1 := hs0
          have e1 : hs (spn l []) = h1 := hs0
          rw [e0, e1]
          exact hF
        | cons e p1 =>
          simp only [List.cons_append, List.cons.injEq] at hp
          obtain ⟨rfl, rfl⟩ := hp
          obtain ⟨o', te, ho', hte, hf⟩ := hE p1 b' i' p2 rfl
          refine ⟨o', te, ho', htree p1 te hte (fun x ⟨j, o, hj, h⟩ => ⟨j, o, List.mem_append_left _ hj, h⟩), ?_⟩
          rw [hspn1]
          simpa using hf
      | true =>
        simp only [hc, if_true] at hspn hspn1
        refine ⟨fun k => match k with | 0 => h | k + 1 => hs k, rfl, by rw [hspn, Nat.add_comm]; exact hsT, ?_⟩
        intro p1 b' i' p2 hp
        cases p1 with
        | nil =>
          simp only [List.nil_append, List.cons.injEq, Prod.mk.injEq] at hp
          obtain ⟨⟨rfl, rfl⟩, rfl⟩ := hp
          refine ⟨o, t, ho, fun x => ⟨fun ⟨_, _, h, _⟩ => (by cases h), fun _ => rfl⟩, ?_⟩
          rw [hc]
          simp only [spn, if_true]
          rw [hs0]
          exact hF
        | cons e p1 =>
          simp only [List.cons_append, List.cons.injEq] at hp
          obtain ⟨rfl, rfl⟩ := hp
          obtain ⟨o', te, ho', hte, hf⟩ := hE p1 b' i' p2 rfl
          refine ⟨o', te, ho', htree p1 te hte (fun x ⟨j, o, hj, h⟩ => ⟨j, o, List.mem_append_left _ hj, h⟩), ?_⟩
          rw [hspn1, Nat.add_comm 1, Nat.add_right_comm]
          exact hf

end
end Go.Proofs.YtmlfcopllfdjfaaGreat.Am
