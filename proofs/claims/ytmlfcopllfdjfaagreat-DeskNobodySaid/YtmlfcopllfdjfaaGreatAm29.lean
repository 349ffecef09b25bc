/- An abstract machine for the program's code, and that it is sound: part Am29. -/
import Derived.Test.YtmlfcopllfdjfaaGreatAm28
namespace Go.Proofs.YtmlfcopllfdjfaaGreat.Am
open Go.RowKit Go.ChangeShapes Go.WideShapes

theorem cell_one {P : Program} {w : World} {r : Reach} {base : Nat} {t : TypeId} {v : Value} (h : Cell.okWide P w r base t v) : v.oneCell' = true := by
  cases v <;> first | rfl | (exfalso; unfold Cell.okWide at h; split at h <;> first | (rename_i h1 h2; cases h2; done) | (unfold Cell.ok at h; split at h <;> simp_all; done))

/-- Opaque arguments: a cell, or a row of cells. -/
def argAV : Option Nat → Nat → AV
  | none, i => .q i
  | some n, i => .ag ((List.range n).map fun k => .q (i + k))

def argAVs : List (Option Nat) → Nat → List AV
  | [], _ => []
  | none :: l, i => .q i :: argAVs l (i + 1)
  | some n :: l, i => argAV (some n) i :: argAVs l (i + n)

inductive Shaped : List (Option Nat) → List Value → Prop where
  | nil : Shaped [] []
  | cell {v : Value} {l : List (Option Nat)} {vs : List Value} (h : v.oneCell' = true) (t : Shaped l vs) : Shaped (none :: l) (v :: vs)
  | row {cs : Array Value} {l : List (Option Nat)} {vs : List Value} (h : ∀ (i : Nat) (v : Value), cs[i]? = some v → v.oneCell' = true) (t : Shaped l vs) : Shaped (some cs.size :: l) (.agg cs :: vs)

theorem shaped_args {sh : List (Option Nat)} {vs : List Value} (h : Shaped sh vs) : ∃ c : List Value, (∀ v ∈ c, v.oneCell' = true) ∧
    ∀ (Θ : Th) (G : Gm) (i : Nat), (∀ k v, c[k]? = some v → Θ (i + k) = v) → RL Θ G (argAVs sh i) vs := by
  induction h with
  | nil => exact ⟨[], (fun v h => by cases h), fun Θ G i _ => RL.nil⟩
  | @cell v l vs h t ih =>
    obtain ⟨c, h1, h2⟩ := ih
    refine ⟨v :: c, fun u hu => ?_, fun Θ G i hΘ => ?_⟩
    · cases hu with
      | head => exact h
      | tail _ hu => exact h1 u hu
    · have h0 : Θ i = v := hΘ 0 v rfl
      refine RL.cons (by rw [← h0]; exact .q i) (h2 Θ G (i + 1) fun k u hk => ?_)
      rw [show i + 1 + k = i + (k + 1) by omega]
      exact hΘ (k + 1) u (by simpa using hk)
  | @row cs l vs h t ih =>
    obtain ⟨c, h1, h2⟩ := ih
    refine ⟨cs.toList ++ c, fun u hu => ?_, fun Θ G i hΘ => ?_⟩
    · rcases List.mem_append.1 hu with hu | hu
      · obtain ⟨j, hj⟩ := List.mem_iff_getElem?.1 hu
        exact h j u (by simpa using hj)
      · exact h1 u hu
    · refine RL.cons (RL.ag_iff.2 ⟨by simp, fun k x y hx hy => ?_⟩) (h2 Θ G (i + cs.size) fun k u hk => ?_)
      · have hk : k < cs.size := by
          rcases Nat.lt_or_ge k cs.size with h | h
          · exact h
          · rw [List.getElem?_eq_none (by simpa using h)] at hy; cases hy
        have hx' : x = .q (i + k) := by
          simp [hk] at hx
          exact hx.symm
        subst hx'
        have := hΘ k y (by rw [List.getElem?_append_left (by simpa using hk)]; exact hy)
        rw [← this]; exact .q _
      · rw [show i + cs.size + k = i + (cs.size + k) by omega]
        refine hΘ _ u ?_
        rw [List.getElem?_append_right (by simp)]
        simpa using hk

theorem okWide_shape {P : Program} {w : World} {r : Reach} {base : Nat} {t : TypeId} {v : Value} (h : Value.okWide P w r base t v) :
    v.oneCell' = true ∨ ∃ cs, v = .agg cs ∧ cs.size = P.cellsOf t ∧ ∀ (i : Nat) (u : Value), cs[i]? = some u → u.oneCell' = true := by
  unfold Value.okWide at h
  split at h
  · obtain ⟨cs, rfl, hs, ts, _, _, hc⟩ := h
    exact .inr ⟨cs, rfl, hs, fun i u hu => let ⟨_, _, h⟩ := hc i u hu; cell_one h⟩
  · obtain ⟨cs, rfl, hs, ts, _, _, hc⟩ := h
    exact .inr ⟨cs, rfl, hs, fun i u hu => let ⟨_, _, h⟩ := hc i u hu; cell_one h⟩
  · exact .inl (cell_one h)

/-! ### A tree of functions, leaf by leaf -/

def Tr.All {α : Type} (p : Nat → α → Prop) : Tr α → (Nat → Nat) → Prop
  | .e, _ => True
  | .n l v r, g => Tr.All p l (fun i => g (2 * i + 1)) ∧ (∀ a, v = some a → p (g 0) a) ∧ Tr.All p r (fun i => g (2 * i + 2))

theorem at_none {α : Type} {q : α → Prop} : ∀ a, none = some a → q a := fun _ h => by cases h
theorem at_some {α : Type} {q : α → Prop} {x : α} (h : q x) : ∀ a, some x = some a → q a := fun _ e => by cases e; exact h

theorem Tr.all_get' {α : Type} {p : Nat → α → Prop} : ∀ {t : Tr α} {g : Nat → Nat}, Tr.All p t g → ∀ i a, t.get i = some a → p (g i) a
  | .e, _, _, i, a, h => by cases i <;> cases h
  | .n l v r, g, hA, i, a, h => by
    obtain ⟨h1, h2, h3⟩ := hA
    simp only [Tr.get] at h
    split at h
    · rename_i h0
      have h0 : i = 0 := Nat.eq_of_beq_eq_true h0
      rw [h0]; exact h2 a h
    · rename_i h0
      have h0 : i ≠ 0 := fun e => by rw [e] at h0; cases h0
      split at h
      · rename_i h4
        have h4 : i % 2 = 1 := Nat.eq_of_beq_eq_true h4
        have := Tr.all_get' h1 _ a h
        rwa [show 2 * (i / 2) + 1 = i by omega] at this
      · rename_i h4
        have h4 : i % 2 ≠ 1 := fun e => by rw [e] at h4; cases h4
        have := Tr.all_get' h3 _ a h
        rwa [show 2 * (i / 2 - 1) + 2 = i by omega] at this

theorem Tr.all_get {α : Type} {p : Nat → α → Prop} {t : Tr α} (h : Tr.All p t fun i => i) : ∀ i a, t.get i = some a → p i a := Tr.all_get' h

theorem cFun_of {P : Program} {f : FuncId} {fn : Func} {af : AF} (hf : P.funcs[f]? = some fn) (h : cFunOf P fn = some af) : cFun P f = some af := by
  simp only [cFun, hf]; exact h

end Go.Proofs.YtmlfcopllfdjfaaGreat.Am
