/- An abstract machine for the program's code, and that it is sound: part Am21. -/
import Derived.Test.YtmlfcopllfdjfaaGreatAm1
import Derived.Orders
namespace Go.Proofs.YtmlfcopllfdjfaaGreat.Am

/-! ### The orders that a region draws -/

def Valid (ops : Array Oper) : List Nat → List Nat → Prop
  | [], S => ∀ i, i < ops.size → i ∈ S
  | i :: π, S => i < ops.size ∧ i ∉ S ∧ (∀ j ∈ bAfter (ops.getD i default), j ∈ S) ∧ Valid ops π (i :: S)

theorem filter_lt {α : Type} {p q : α → Bool} : ∀ {l : List α}, (∀ x ∈ l, q x = true → p x = true) → (∃ y ∈ l, p y = true ∧ q y = false) → (l.filter q).length < (l.filter p).length
  | [], _, ⟨_, h, _⟩ => by cases h
  | a :: l, h, ⟨y, hy, h1, h2⟩ => by
    have hle : ∀ {l : List α}, (∀ x ∈ l, q x = true → p x = true) → (l.filter q).length ≤ (l.filter p).length := by
      intro l
      induction l with
      | nil => intro _; simp
      | cons b l ih =>
        intro hh
        have := ih fun x hx => hh x (by simp [hx])
        have hb := hh b (by simp)
        cases hq : q b with
        | true => simp [hq, hb hq]; exact this
        | false => cases hp : p b <;> simp [hq, hp] <;> omega
    cases hy with
    | head =>
      have := hle (l := l) fun x hx => h x (by simp [hx])
      simp [h1, h2]; omega
    | tail _ hy =>
      have := filter_lt (l := l) (fun x hx => h x (by simp [hx])) ⟨y, hy, h1, h2⟩
      have hb := h a (by simp)
      cases hq : q a with
      | true => simp [hq, hb hq]; exact this
      | false => cases hp : p a <;> simp [hq, hp] <;> omega

theorem all_after {ops : Array Oper} {i : Nat} (hi : i < ops.size) {f : Nat → Bool} (h : ((ops[i]?).map (·.after.all fun e => !Region.binds .any e || f e.on)).getD false = true) :
    ∀ j ∈ bAfter (ops.getD i default), f j = true := by
  have ho : ops[i]? = some (ops.getD i default) := by simp [hi]
  rw [ho] at h
  intro j hj
  simp only [bAfter, List.mem_map, List.mem_filter, Array.mem_toList_iff] at hj
  obtain ⟨e, ⟨he, hb⟩, rfl⟩ := hj
  simp only [Option.map_some, Option.getD_some, Array.all_eq_true_iff_forall_mem] at h
  have := h e he
  simpa [hb] using this

theorem after_all {ops : Array Oper} {i : Nat} (hi : i < ops.size) {f : Nat → Bool} (h : ∀ j ∈ bAfter (ops.getD i default), f j = true) :
    ((ops[i]?).map (·.after.all fun e => !Region.binds .any e || f e.on)).getD false = true := by
  have ho : ops[i]? = some (ops.getD i default) := by simp [hi]
  rw [ho]
  simp only [Option.map_some, Option.getD_some, Array.all_eq_true_iff_forall_mem]
  intro e he
  cases hb : Region.binds .any e with
  | false => rfl
  | true =>
    have := h e.on (by
      simp only [bAfter, List.mem_map, List.mem_filter, Array.mem_toList_iff]
      exact ⟨e, ⟨he, hb⟩, rfl⟩)
    simp [this]

theorem go_valid {ops : Array Oper} (hback : ∀ i, i < ops.size → ∀ j ∈ bAfter (ops.getD i default), j < i) : ∀ (fuel t : Nat) (listed : Array Bool) (S : List Nat),
    listed.size = ops.size → (∀ i, i < ops.size → (listed.getD i false = true ↔ i ∈ S)) → ((List.range ops.size).filter fun i => !listed.getD i false).length ≤ fuel →
    Valid ops (Region.linearise.go .any ops fuel t listed []) S
  | 0, t, listed, S, hs, hl, hf => by
    simp only [Region.linearise.go, List.reverse_nil, Valid]
    intro i hi
    have h0 : ((List.range ops.size).filter fun i => !listed.getD i false) = [] := List.length_eq_zero_iff.1 (by omega)
    have := List.filter_eq_nil_iff.1 h0 i (by simpa using hi)
    exact (hl i hi).1 (by simpa using this)
  | fuel + 1, t, listed, S, hs, hl, hf => by
    simp only [Region.linearise.go]
    generalize hrs : ((List.range ops.size).filter fun i => !listed.getD i true && ((ops[i]?).map (·.after.all fun e => !Region.binds .any e || listed.getD e.on false)).getD false) = rs
    have hmem : ∀ i, i ∈ rs ↔ i < ops.size ∧ i ∉ S ∧ ∀ j ∈ bAfter (ops.getD i default), listed.getD j false = true := by
      intro i
      rw [← hrs]
      simp only [List.mem_filter, List.mem_range, Bool.and_eq_true]
      constructor
      · rintro ⟨hi, h1, h2⟩
        refine ⟨hi, ?_, all_after hi h2⟩
        intro hS
        have := (hl i hi).2 hS
        rw [Array.getD_eq_getD_getElem?] at this h1
        cases hx : listed[i]? with
        | none => rw [hx] at this; simp at this
        | some b => rw [hx] at this h1; simp at this h1; rw [this] at h1; cases h1
      · rintro ⟨hi, h1, h2⟩
        refine ⟨hi, ?_, after_all hi h2⟩
        have hx : listed[i]? = some listed[i] := by simp [hs, hi]
        rw [Array.getD_eq_getD_getElem?, hx]
        cases hb : listed[i] with
        | false => rfl
        | true =>
          exact absurd ((hl i hi).1 (by rw [Array.getD_eq_getD_getElem?, hx, hb]; rfl)) h1
    split
    · rename_i i hi
      have him : i ∈ rs := List.mem_of_getElem? hi
      obtain ⟨h1, h2, h3⟩ := (hmem i).1 him
      rw [linearise_go_acc, List.reverse_singleton, List.singleton_append]
      have hback' : ∀ j ∈ bAfter (ops.getD i default), j < ops.size := fun j hj => Nat.lt_trans (hback i h1 j hj) h1
      refine ⟨h1, h2, fun j hj => (hl j (hback' j hj)).1 (h3 j hj), ?_⟩
      have hget : ∀ j, (listed.setIfInBounds i true).getD j false = true ↔ (j = i ∨ listed.getD j false = true) := by
        intro j
        simp only [Array.getD_eq_getD_getElem?, Array.getElem?_setIfInBounds]
        by_cases hji : i = j
        · subst hji; simp [hs, h1]
        · rw [if_neg hji]; constructor
          · exact .inr
          · rintro (h | h)
            · exact absurd h.symm hji
            · exact h
      refine go_valid hback fuel _ _ _ (by simpa using hs) (fun j hj => ?_) ?_
      · rw [hget, List.mem_cons, hl j hj]
      · refine Nat.le_of_lt_succ (Nat.lt_of_lt_of_le (filter_lt (fun x _ hx => ?_) ⟨i, by simpa using h1, ?_, ?_⟩) hf)
        · have : ¬ (listed.setIfInBounds i true).getD x false = true := by simpa using hx
          rw [hget] at this
          have : ¬ listed.getD x false = true := fun e => this (.inr e)
          simpa using this
        · have : ¬ listed.getD i false = true := fun e => h2 ((hl i h1).1 e)
          simpa using this
        · have := (hget i).2 (.inl rfl)
          simp [this]
    · rename_i hnone
      simp only [List.reverse_nil, Valid]
      have hemp : rs = [] := by
        cases rs with
        | nil => rfl
        | cons a l =>
          exfalso
          have : t % (a :: l).length < (a :: l).length := Nat.mod_lt _ (by simp)
          rw [List.getElem?_eq_getElem this] at hnone
          cases hnone
      intro i
      induction i using Nat.strongRecOn with
      | _ i ih =>
        intro hi
        rcases Classical.em (i ∈ S) with h | h
        · exact h
        · exfalso
          have : i ∈ rs := (hmem i).2 ⟨hi, h, fun j hj => by
            have hlt := hback i hi j hj
            exact (hl j (Nat.lt_trans hlt hi)).2 (ih j hlt (Nat.lt_trans hlt hi))⟩
          rw [hemp] at this; cases this

theorem linearise_valid {ops : Array Oper} (hback : ∀ i, i < ops.size → ∀ j ∈ bAfter (ops.getD i default), j < i) (q : Nat) : Valid ops (Region.linearise .any ops q) [] := by
  refine go_valid hback _ _ _ _ (by simp) (fun i hi => ?_) ?_
  · simp [hi]
  · exact Nat.le_trans (List.length_filter_le _ _) (by simp)

/-! ### What lies ahead -/

theorem maskOf_bit (anc : List Nat) (x : Nat) : ∀ (l : List Nat) (s : Nat), (maskOf anc l s).testBit x = true ↔ s.testBit x = true ∨ ∃ j ∈ l, x = j ∨ isAnc anc x j = true
  | [], s => by simp [maskOf]
  | j :: l, s => by
    rw [maskOf, maskOf_bit anc x l]
    simp only [Nat.testBit_or, Nat.testBit_two_pow, Bool.or_eq_true, decide_eq_true_eq, List.mem_cons, isAnc]
    constructor
    · rintro ((( h | h) | h) | ⟨u, hu, h⟩)
      · exact .inl h
      · exact .inr ⟨j, .inl rfl, .inl h.symm⟩
      · exact .inr ⟨j, .inl rfl, .inr h⟩
      · exact .inr ⟨u, .inr hu, h⟩
    · rintro (h | ⟨u, rfl | hu, h⟩)
      · exact .inl (.inl (.inl h))
      · rcases h with h | h
        · exact .inl (.inl (.inr h.symm))
        · exact .inl (.inr h)
      · exact .inr ⟨u, hu, h⟩

theorem ancOk_inv (anc : List Nat) : ∀ (ls : List (List Nat)) (i0 : Nat), ancOk anc ls i0 = true → ∀ i l, ls[i]? = some l → (∀ j ∈ l, j < i0 + i) ∧ (anc[i0 + i]?).getD 0 = maskOf anc l 0
  | [], _, _, i, l, h => by simp at h
  | l0 :: ls, i0, ho, i, l, h => by
    simp only [ancOk, Bool.and_eq_true, List.all_eq_true] at ho
    obtain ⟨⟨h1, h2⟩, h3⟩ := ho
    cases i with
    | zero =>
      simp at h; subst h
      exact ⟨fun j hj => by simpa using h1 j hj, Nat.eq_of_beq_eq_true h2⟩
    | succ i =>
      have := ancOk_inv anc ls (i0 + 1) h3 i l (by simpa using h)
      rw [show i0 + (i + 1) = i0 + 1 + i by omega]
      exact this

theorem anc_inv {ops : Array Oper} {anc : List Nat} (h : ancOk anc (ops.toList.map bAfter) 0 = true) :
    (∀ i, i < ops.size → ∀ j ∈ bAfter (ops.getD i default), j < i) ∧
    ∀ i, i < ops.size → ∀ j, isAnc anc j i = true → ∃ u ∈ bAfter (ops.getD i default), j = u ∨ isAnc anc j u = true := by
  have hg : ∀ i, i < ops.size → (ops.toList.map bAfter)[i]? = some (bAfter (ops.getD i default)) := by
    intro i hi; simp [hi]
  refine ⟨fun i hi j hj => ?_, fun i hi j hj => ?_⟩
  · have := (ancOk_inv anc _ _ h i _ (hg i hi)).1 j hj
    omega
  · have := (ancOk_inv anc _ _ h i _ (hg i hi)).2
    rw [Nat.zero_add] at this
    unfold isAnc at hj
    rw [this, maskOf_bit] at hj
    rcases hj with h | h
    · simp at h
    · exact h

def Closed (anc : List Nat) (S : List Nat) : Prop := ∀ i ∈ S, ∀ j, isAnc anc j i = true → j ∈ S

theorem valid_anc {ops : Array Oper} {anc : List Nat} (h : ancOk anc (ops.toList.map bAfter) 0 = true) {i : Nat} {π S : List Nat} (hv : Valid ops (i :: π) S) (hc : Closed anc S) :
    (∀ j, isAnc anc j i = true → j ∈ S) ∧ Closed anc (i :: S) := by
  obtain ⟨hi, _, hd, _⟩ := hv
  have h1 : ∀ j, isAnc anc j i = true → j ∈ S := fun j hj => by
    obtain ⟨u, hu, h | h⟩ := (anc_inv h).2 i hi j hj
    · subst h; exact hd _ hu
    · exact hc u (hd u hu) j h
  refine ⟨h1, fun x hx j hj => ?_⟩
  cases hx with
  | head => exact .tail _ (h1 j hj)
  | tail _ hx => exact .tail _ (hc x hx j hj)

end Go.Proofs.YtmlfcopllfdjfaaGreat.Am
