/- An abstract machine for the program's code, and that it is sound: part Am24. -/
import Derived.Test.YtmlfcopllfdjfaaGreatAm23
namespace Go.Proofs.YtmlfcopllfdjfaaGreat.Am

/-! ### What the check of a plan says -/

theorem two_pow_bit (i j : Nat) : (2 ^ i).testBit j = decide (i = j) := Nat.testBit_two_pow

theorem slotOk_inv {anc : List Nat} {i done x : Nat} : ∀ {l : List AOper} {j0 : Nat}, slotOk anc i done x l j0 = true → ∀ j o, l[j]? = some o → o.d = some x →
    isAnc anc (j0 + j) i = true ∨ (isAnc anc i (j0 + j) = true ∧ done.testBit (j0 + j) = false)
  | [], _, _, j, o, h, _ => by simp at h
  | a :: l, j0, hs, j, o, h, hd => by
    simp only [slotOk, Bool.and_eq_true] at hs
    cases j with
    | zero =>
      simp at h; subst h
      have h1 := hs.1
      rw [hd] at h1
      simp only [Nat.beq_refl, Bool.not_true, Bool.false_or, Bool.or_eq_true, Bool.and_eq_true, Bool.not_eq_true'] at h1
      exact h1
    | succ j =>
      have := slotOk_inv hs.2 j o (by simpa using h) hd
      rw [show j0 + (j + 1) = j0 + 1 + j by omega]
      exact this

theorem looksOk_inv {ops : List AOper} {anc : List Nat} {i done : Nat} (h : looksOk ops anc i done = true) : ∃ o, ops[i]? = some o ∧ ∀ x ∈ o.looks, ∀ j oj, ops[j]? = some oj → oj.d = some x →
    isAnc anc j i = true ∨ (isAnc anc i j = true ∧ done.testBit j = false) := by
  unfold looksOk at h
  split at h
  · cases h
  · rename_i o ho
    refine ⟨o, ho, fun x hx j oj hj hd => ?_⟩
    have := slotOk_inv (List.all_eq_true.1 h x hx) j oj hj hd
    rwa [Nat.zero_add] at this

theorem and_beq {a d : Nat} (h : Nat.beq (a &&& d) a = true) (j : Nat) (hj : a.testBit j = true) : d.testBit j = true := by
  have e := Nat.eq_of_beq_eq_true h
  rw [← e] at hj
  simp only [Nat.testBit_and, Bool.and_eq_true] at hj
  exact hj.2

theorem entriesOk_inv {ops : List AOper} {anc : List Nat} : ∀ {plan : List (Bool × Nat)} {done : Nat}, entriesOk ops anc plan done = true →
    (∀ i, i < ops.length → done.testBit i = true ∨ (true, i) ∈ plan) ∧
    ∀ p1 b i p2, plan = p1 ++ (b, i) :: p2 → ∃ o, ops[i]? = some o ∧
      (∀ x ∈ o.looks, ∀ j oj, ops[j]? = some oj → oj.d = some x → isAnc anc j i = true ∨ (isAnc anc i j = true ∧ done.testBit j = false ∧ (true, j) ∉ p1)) ∧
      (b = true → done.testBit i = false ∧ (true, i) ∉ p1 ∧ ∀ j, isAnc anc j i = true → done.testBit j = true ∨ (true, j) ∈ p1) ∧
      (b = false → clsAt ops i = 1 ∧ (done.testBit i = true ∨ (true, i) ∈ p1))
  | [], done, h => by
    simp only [entriesOk, List.all_eq_true, List.mem_range] at h
    exact ⟨fun i hi => .inl (h i hi), fun p1 b i p2 hp => by simp at hp⟩
  | (true, i) :: plan, done, h => by
    simp only [entriesOk, Bool.and_eq_true, Bool.not_eq_true'] at h
    obtain ⟨⟨⟨h1, h2⟩, h3⟩, h4⟩ := h
    obtain ⟨ih1, ih2⟩ := entriesOk_inv h4
    have hbit : ∀ j, (done ||| 2 ^ i).testBit j = true ↔ done.testBit j = true ∨ i = j := fun j => by
      simp [Nat.testBit_or, two_pow_bit]
    have hbitf : ∀ j, (done ||| 2 ^ i).testBit j = false → done.testBit j = false ∧ i ≠ j := fun j hj => by
      simpa [Nat.testBit_or, two_pow_bit] using hj
    refine ⟨fun j hj => ?_, fun p1 b i' p2 hp => ?_⟩
    · rcases ih1 j hj with h | h
      · rcases (hbit j).1 h with h | h
        · exact .inl h
        · subst h; exact .inr (.head _)
      · exact .inr (.tail _ h)
    · cases p1 with
      | nil =>
        simp only [List.nil_append, List.cons.injEq, Prod.mk.injEq] at hp
        obtain ⟨⟨rfl, rfl⟩, rfl⟩ := hp
        obtain ⟨o, ho, hlk⟩ := looksOk_inv h3
        refine ⟨o, ho, fun x hx j oj hj hd => ?_, fun _ => ⟨h1, by simp, fun j hj => .inl (and_beq h2 j hj)⟩, fun h => by cases h⟩
        rcases hlk x hx j oj hj hd with h | ⟨h, h'⟩
        · exact .inl h
        · exact .inr ⟨h, h', by simp⟩
      | cons e p1 =>
        simp only [List.cons_append, List.cons.injEq] at hp
        obtain ⟨rfl, rfl⟩ := hp
        obtain ⟨o, ho, hlk, ht, hf⟩ := ih2 p1 b i' p2 rfl
        refine ⟨o, ho, fun x hx j oj hj hd => ?_, fun hb => ?_, fun hb => ?_⟩
        · rcases hlk x hx j oj hj hd with h | ⟨h, h', h''⟩
          · exact .inl h
          · obtain ⟨q1, q2⟩ := hbitf j h'
            refine .inr ⟨h, q1, fun hm => ?_⟩
            cases hm with
            | head => exact q2 rfl
            | tail _ hm => exact h'' hm
        · obtain ⟨q1, q2, q3⟩ := ht hb
          obtain ⟨r1, r2⟩ := hbitf i' q1
          refine ⟨r1, fun hm => ?_, fun j hj => ?_⟩
          · cases hm with
            | head => exact r2 rfl
            | tail _ hm => exact q2 hm
          · rcases q3 j hj with h | h
            · rcases (hbit j).1 h with h | h
              · exact .inl h
              · subst h; exact .inr (.head _)
            · exact .inr (.tail _ h)
        · obtain ⟨q1, q2⟩ := hf hb
          refine ⟨q1, ?_⟩
          rcases q2 with h | h
          · rcases (hbit i').1 h with h | h
            · exact .inl h
            · subst h; exact .inr (.head _)
          · exact .inr (.tail _ h)
  | (false, i) :: plan, done, h => by
    simp only [entriesOk, Bool.and_eq_true] at h
    obtain ⟨⟨⟨h1, h2⟩, h3⟩, h4⟩ := h
    obtain ⟨ih1, ih2⟩ := entriesOk_inv h4
    refine ⟨fun j hj => (ih1 j hj).imp id fun h => .tail _ h, fun p1 b i' p2 hp => ?_⟩
    cases p1 with
    | nil =>
      simp only [List.nil_append, List.cons.injEq, Prod.mk.injEq] at hp
      obtain ⟨⟨rfl, rfl⟩, rfl⟩ := hp
      obtain ⟨o, ho, hlk⟩ := looksOk_inv h3
      refine ⟨o, ho, fun x hx j oj hj hd => ?_, (fun h => by cases h), fun _ => ⟨Nat.eq_of_beq_eq_true h2, .inl h1⟩⟩
      rcases hlk x hx j oj hj hd with h | ⟨h, h'⟩
      · exact .inl h
      · exact .inr ⟨h, h', by simp⟩
    | cons e p1 =>
      simp only [List.cons_append, List.cons.injEq] at hp
      obtain ⟨rfl, rfl⟩ := hp
      have hm : ∀ j, (true, j) ∈ (false, i) :: p1 ↔ (true, j) ∈ p1 := fun j => by simp
      obtain ⟨o, ho, hlk, ht, hf⟩ := ih2 p1 b i' p2 rfl
      refine ⟨o, ho, ?_, ?_, ?_⟩
      · simpa only [hm] using hlk
      · simpa only [hm] using ht
      · simpa only [hm] using hf

theorem dstsOk_inv : ∀ {l : List AOper} {seen : List Nat}, dstsOk l seen = true →
    (∀ (i : Nat) (o : AOper) (d : Nat), l[i]? = some o → o.d = some d → d ∉ seen) ∧ ∀ (i j : Nat) (o o' : AOper) (d : Nat), l[i]? = some o → l[j]? = some o' → o.d = some d → o'.d = some d → i = j
  | [], seen, _ => ⟨fun i o d h => by simp at h, fun i j o o' d h => by simp at h⟩
  | a :: l, seen, h => by
    simp only [dstsOk] at h
    split at h
    · rename_i hd
      obtain ⟨h1, h2⟩ := dstsOk_inv h
      refine ⟨fun i o d hi ho => ?_, fun i j o o' d hi hj ho ho' => ?_⟩
      · cases i with
        | zero => simp at hi; subst hi; rw [hd] at ho; cases ho
        | succ i => exact h1 i o d (by simpa using hi) ho
      · cases i with
        | zero => simp at hi; subst hi; rw [hd] at ho; cases ho
        | succ i => cases j with
          | zero => simp at hj; subst hj; rw [hd] at ho'; cases ho'
          | succ j => rw [h2 i j o o' d (by simpa using hi) (by simpa using hj) ho ho']
    · rename_i d0 hd
      simp only [Bool.and_eq_true, Bool.not_eq_true', List.contains_eq_mem, decide_eq_false_iff_not] at h
      obtain ⟨h0, h⟩ := h
      obtain ⟨h1, h2⟩ := dstsOk_inv h
      refine ⟨fun i o d hi ho => ?_, fun i j o o' d hi hj ho ho' => ?_⟩
      · cases i with
        | zero => simp at hi; subst hi; rw [hd] at ho; cases ho; exact h0
        | succ i => exact fun hm => h1 i o d (by simpa using hi) ho (.tail _ hm)
      · cases i with
        | zero =>
          simp at hi; subst hi; rw [hd] at ho; cases ho
          cases j with
          | zero => rfl
          | succ j => exact absurd (List.Mem.head _) (h1 j o' d0 (by simpa using hj) ho')
        | succ i => cases j with
          | zero => simp at hj; subst hj; rw [hd] at ho'; cases ho'; exact absurd (List.Mem.head _) (h1 i o d0 (by simpa using hi) ho)
          | succ j => rw [h2 i j o o' d (by simpa using hi) (by simpa using hj) ho ho']

theorem apart_of {l : List AOper} (hd : ∀ (i j : Nat) (o o' : AOper) (d : Nat), l[i]? = some o → l[j]? = some o' → o.d = some d → o'.d = some d → i = j) : ∀ {plan : List (Bool × Nat)},
    (∀ p1 i p2, plan = p1 ++ (true, i) :: p2 → (true, i) ∉ p1) → apartOk l plan
  | [], _ => trivial
  | (true, i) :: r, h => by
    refine ⟨fun j hj d o o' hi hj' ho ho' => ?_, apart_of hd fun p1 j p2 hp hm => h ((true, i) :: p1) j p2 (by rw [hp]; rfl) (.tail _ hm)⟩
    have := hd i j o o' d hi hj' ho ho'
    subst this
    obtain ⟨q1, q2, hq⟩ := List.append_of_mem hj
    exact h ((true, i) :: q1) i q2 (by rw [hq]; rfl) (.head _)
  | (false, i) :: r, h => apart_of (plan := r) hd fun p1 j p2 hp hm => h ((false, i) :: p1) j p2 (by rw [hp]; rfl) (.tail _ hm)

/-! ### The spine -/

theorem spine_at {l : List AOper} : ∀ {plan : List (Bool × Nat)} {p1 : List (Bool × Nat)} {i : Nat} {p2 : List (Bool × Nat)}, plan = p1 ++ (true, i) :: p2 → 2 ≤ clsAt l i → (spineOf l plan)[spn l p1]? = some i
  | _, [], i, p2, rfl, hc => by
    have : Nat.ble 2 (clsAt l i) = true := by simpa using hc
    simp [spineOf, spn, this]
  | _, (true, j) :: p1, i, p2, rfl, hc => by
    have ih := spine_at (l := l) (plan := p1 ++ (true, i) :: p2) (p1 := p1) rfl hc
    simp only [List.cons_append, spineOf, spn, Bool.true_and]
    split
    · rw [Nat.add_comm]; simpa using ih
    · simpa using ih
  | _, (false, j) :: p1, i, p2, rfl, hc => by
    have ih := spine_at (l := l) (plan := p1 ++ (true, i) :: p2) (p1 := p1) rfl hc
    simpa [spineOf, spn] using ih

theorem at_spine {l : List AOper} : ∀ {plan : List (Bool × Nat)} {k i : Nat}, (spineOf l plan)[k]? = some i → 2 ≤ clsAt l i ∧ ∃ p1 p2, plan = p1 ++ (true, i) :: p2 ∧ spn l p1 = k
  | [], k, i, h => by simp [spineOf] at h
  | (false, j) :: plan, k, i, h => by
    obtain ⟨h1, p1, p2, rfl, h3⟩ := at_spine (plan := plan) (by simpa [spineOf] using h)
    exact ⟨h1, (false, j) :: p1, p2, rfl, by simpa [spn] using h3⟩
  | (true, j) :: plan, k, i, h => by
    simp only [spineOf] at h
    split at h
    · rename_i hc
      cases k with
      | zero =>
        simp at h; subst h
        exact ⟨by simpa using hc, [], plan, rfl, rfl⟩
      | succ k =>
        obtain ⟨h1, p1, p2, rfl, h3⟩ := at_spine (plan := plan) (by simpa using h)
        exact ⟨h1, (true, j) :: p1, p2, rfl, by simp [spn, hc, h3, Nat.add_comm]⟩
    · rename_i hc
      obtain ⟨h1, p1, p2, rfl, h3⟩ := at_spine (plan := plan) h
      exact ⟨h1, (true, j) :: p1, p2, rfl, by simp [spn, hc, h3]⟩

theorem spn_le {l : List AOper} : ∀ (p1 p2 : List (Bool × Nat)), spn l (p1 ++ p2) = spn l p1 + spn l p2
  | [], p2 => by simp [spn]
  | (b, i) :: p1, p2 => by simp only [List.cons_append, spn, spn_le p1 p2]; omega

theorem spine_len {l : List AOper} : ∀ (plan : List (Bool × Nat)), (spineOf l plan).length = spn l plan
  | [] => rfl
  | (true, i) :: p => by
    simp only [spineOf, spn, Bool.true_and]
    split <;> simp [spine_len p] <;> omega
  | (false, i) :: p => by simp [spineOf, spn, spine_len p]

theorem spineOk_inv {anc : List Nat} {fl : Nat} : ∀ {sp : List Nat}, spineOk anc fl sp = true → ∀ (k u v : Nat), sp[k]? = some u → sp[k + 1]? = some v →
    (v ≠ fl → isAnc anc u v = true) ∧ (v = fl → ∀ x, sp[k + 2]? = some x → isAnc anc u x = true)
  | [], _, k, u, v, h, _ => by simp at h
  | [_], _, k, u, v, _, h => by simp at h
  | a :: b :: l, hs, k, u, v, hu, hv => by
    simp only [spineOk, Bool.and_eq_true] at hs
    cases k with
    | zero =>
      simp at hu hv; subst hu; subst hv
      have h1 := hs.1
      by_cases e : b = fl
      · rw [if_pos (by rw [e]; exact Nat.beq_refl _)] at h1
        refine ⟨fun h => absurd e h, fun _ x hx => ?_⟩
        cases l with
        | nil => simp at hx
        | cons y l => simp at hx; subst hx; exact h1
      · rw [if_neg (fun h => e (Nat.eq_of_beq_eq_true h))] at h1
        exact ⟨fun _ => h1, fun h => absurd h e⟩
    | succ k => exact spineOk_inv hs.2 k u v (by simpa using hu) (by simpa using hv)

theorem floatRead_inv {anc : List Nat} {fl i : Nat} : ∀ {sp : List Nat}, floatRead anc fl i sp = true → ∀ (k u : Nat), sp[k]? = some u → sp[k + 1]? = some fl → isAnc anc fl i = true → isAnc anc u i = true
  | [], _, k, u, h, _, _ => by simp at h
  | [_], _, k, u, _, h, _ => by simp at h
  | a :: b :: l, hs, k, u, hu, hv, hf => by
    simp only [floatRead, Bool.and_eq_true] at hs
    cases k with
    | zero =>
      simp at hu hv; subst hu; subst hv
      simpa [Nat.beq_refl, hf] using hs.1
    | succ k => exact floatRead_inv hs.2 k u (by simpa using hu) (by simpa using hv) hf

theorem segsOf_mem {l : List AOper} {i : Nat} : ∀ {plan : List (Bool × Nat)} {k0 k : Nat}, k ∈ segsOf l i plan k0 → ∃ p1 b p2, plan = p1 ++ (b, i) :: p2 ∧ k = k0 + spn l p1
  | [], k0, k, h => by simp [segsOf] at h
  | (b, j) :: plan, k0, k, h => by
    have hrec : k ∈ segsOf l i plan (if b && Nat.ble 2 (clsAt l j) then k0 + 1 else k0) → ∃ p1 b' p2, (b, j) :: plan = p1 ++ (b', i) :: p2 ∧ k = k0 + spn l p1 := by
      intro h
      obtain ⟨p1, b', p2, rfl, hk⟩ := segsOf_mem h
      refine ⟨(b, j) :: p1, b', p2, rfl, ?_⟩
      rw [hk]
      simp only [spn]
      split <;> omega
    simp only [segsOf] at h
    split at h
    · rename_i hij
      have hij : i = j := Nat.eq_of_beq_eq_true hij
      subst hij
      cases h with
      | head => exact ⟨[], b, plan, rfl, rfl⟩
      | tail _ h => exact hrec h
    · exact hrec h

theorem readOk_inv {ops : List AOper} {anc : List Nat} {fl i : Nat} {sp segs : List Nat} : ∀ {rest past : List Nat} {k0 : Nat}, readOk ops anc fl sp segs i past rest k0 = true → ∀ k, k ≤ rest.length →
    (∀ s ∈ past, isAnc anc i s = false) → (∀ s ∈ rest.take k, isAnc anc i s = false) → (∀ s ∈ rest.drop k, isAnc anc s i = false) → k0 + k ∈ segs
  | rest, past, k0, h, 0, _, h1, _, h3 => by
    have hhd : ((past.any (fun s => isAnc anc i s) || rest.any (fun s => isAnc anc s i) || segs.contains k0)) = true := by
      cases rest <;> simp only [readOk, Bool.and_eq_true] at h <;> exact h.1
    simp only [Bool.or_eq_true, List.any_eq_true, List.contains_eq_mem, decide_eq_true_eq] at hhd
    rcases hhd with (⟨s, hs, h⟩ | ⟨s, hs, h⟩) | h
    · rw [h1 s hs] at h; cases h
    · rw [h3 s (by simpa using hs)] at h; cases h
    · exact h
  | [], past, k0, h, k + 1, hk, _, _, _ => by simp at hk
  | a :: rest, past, k0, h, k + 1, hk, h1, h2, h3 => by
    simp only [readOk, Bool.and_eq_true] at h
    have := readOk_inv h.2 k (by simpa using hk) (fun s hs => by
      cases hs with
      | head => exact h2 a (by simp)
      | tail _ hs => exact h1 s hs) (fun s hs => h2 s (by simp [hs])) (fun s hs => h3 s (by simpa using hs))
    rw [show k0 + (k + 1) = k0 + 1 + k by omega]
    exact this

end Go.Proofs.YtmlfcopllfdjfaaGreat.Am
