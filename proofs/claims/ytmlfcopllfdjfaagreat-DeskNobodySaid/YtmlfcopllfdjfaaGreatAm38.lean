/- An abstract machine for the program's code, and that it is sound: part Am38. -/
import Derived.Test.YtmlfcopllfdjfaaGreatAm37
namespace Go.Proofs.YtmlfcopllfdjfaaGreat.Am
open Go.RowKit Go.ChangeShapes Go.WideShapes

/-! ### Arguments by their shape -/

inductive Ty where
  | i | s | b
  | sl (e : Ty)
  | nil
  | cons (a r : Ty)

def hasFs (g : TypeId → Ty → Bool) : List Field → Ty → Bool
  | [], .nil => true
  | f :: fs, .cons a r => g f.type a && hasFs g fs r
  | _, _ => false

/-- Has a type this shape? -/
def hasTy (P : Program) : Nat → TypeId → Ty → Bool
  | 0, _, _ => false
  | n + 1, t, ty => match P.underlying t with
    | some (.int k) => match ty with
      | .i => kindEq k .i64
      | _ => false
    | some .string => match ty with
      | .s => true
      | _ => false
    | some .bool => match ty with
      | .b => true
      | _ => false
    | some (.slice e) => match ty with
      | .sl a => hasTy P n e a
      | _ => false
    | some (.struct fs) => hasFs (hasTy P n) fs.toList ty
    | _ => false

/-- Cells of a shape. -/
def Val (h : AH) : Ty → List AV → Prop
  | .i, L => ∃ x, L = [.i .i64 x] ∧ IntKind.i64.min ≤ x ∧ x ≤ IntKind.i64.max
  | .s, L => ∃ l, L = [.s l] ∧ (∀ b ∈ l, b < 256) ∧ l.length ≤ maxLen
  | .b, L => ∃ b, L = [.b b]
  | .sl e, L => L = [.nsl] ∨ L = [.zs] ∨ ∃ id len Ls, L = [.sl id 0 len (.ex (List.length Ls))] ∧ len ≤ List.length Ls ∧ List.length Ls ≤ maxLen ∧
      h.o.get id = some (.cells (List.flatten Ls).length true true (List.flatten Ls).length (List.flatten Ls) .e) ∧ ∀ L ∈ Ls, Val h e L
  | .nil, L => L = []
  | .cons a r, L => ∃ L1 L2, L = L1 ++ L2 ∧ Val h a L1 ∧ Val h r L2

theorem kindEq_inv {k k' : IntKind} (h : kindEq k k' = true) : k = k' := by cases k <;> cases k' <;> first | rfl | cases h

theorem val_fields {P : Program} {h : AH} {n : Nat} (ih : ∀ t ty L, hasTy P n t ty = true → Sh P h n t L → Val h ty L) : ∀ {fs : List Field} {ty : Ty} {Ls : List (List AV)}, hasFs (hasTy P n) fs ty = true → Ls.length = fs.length →
    (∀ (i : Nat) (f : Field) (L : List AV), fs[i]? = some f → Ls[i]? = some L → Sh P h n f.type L) → Val h ty Ls.flatten
  | [], ty, Ls, ht, hl, _ => by
    have : Ls = [] := List.length_eq_zero_iff.1 hl
    subst this
    cases ty <;> first | (cases ht; done) | rfl
  | f :: fs, ty, Ls, ht, hl, hs => by
    match Ls, hl with
    | L :: Ls, hl =>
      cases ty <;> first | (cases ht; done) | skip
      rename_i a r
      simp only [hasFs, Bool.and_eq_true] at ht
      exact ⟨L, Ls.flatten, rfl, ih _ _ _ ht.1 (hs 0 f L rfl rfl), val_fields ih ht.2 (by simpa using hl) fun i g M hg hM => hs (i + 1) g M (by simpa using hg) (by simpa using hM)⟩

theorem val_of_sh {P : Program} {h : AH} : ∀ (n : Nat) (t : TypeId) (ty : Ty) (L : List AV), hasTy P n t ty = true → Sh P h n t L → Val h ty L
  | 0, _, _, _, ht, _ => by cases ht
  | n + 1, t, ty, L, ht, s => by
    simp only [hasTy] at ht
    simp only [Sh] at s
    split at ht
    · rename_i k hu; rw [hu] at s
      split at ht
      · have := kindEq_inv ht; subst this; exact s
      · cases ht
    · rename_i hu; rw [hu] at s
      split at ht
      · exact s
      · cases ht
    · rename_i hu; rw [hu] at s
      split at ht
      · exact s
      · cases ht
    · rename_i e hu; rw [hu] at s
      split at ht
      · rename_i a
        rcases s with s | s | ⟨id, len, Ls, h1, h2, h3, h4, h5⟩
        · exact .inl s
        · exact .inr (.inl s)
        · exact .inr (.inr ⟨id, len, Ls, h1, h2, h3, h4, fun M hM => val_of_sh n e a M ht (h5 M hM).1⟩)
      · cases ht
    · rename_i fs hu; rw [hu] at s
      obtain ⟨Ls, rfl, h1, h2⟩ := s
      exact val_fields (val_of_sh n) ht (by simpa using h1) fun i f M hf hM => (h2 i f M (by simpa using hf) hM).1
    · cases ht

/-- An argument of a shape. -/
def ArgOf (h : AH) (ty : Ty) (av : AV) : Prop := match ty with
  | .nil => av = .ag []
  | .cons a r => ∃ L, av = .ag L ∧ Val h (.cons a r) L
  | ty => Val h ty [av]

theorem arg_of_sh {P : Program} {h : AH} {n : Nat} {t : TypeId} {ty : Ty} {av : AV} (ht : hasTy P n t ty = true) (s : ShV P h n t av) : ArgOf h ty av := by
  have key := fun L => val_of_sh (P := P) (h := h) n t ty L ht
  cases n with
  | zero => cases ht
  | succ n =>
    simp only [hasTy] at ht
    unfold ShV at s
    split at ht
    · rename_i k hu; rw [hu] at s
      cases ty <;> first | (cases ht; done) | exact key _ s
    · rename_i hu; rw [hu] at s
      cases ty <;> first | (cases ht; done) | exact key _ s
    · rename_i hu; rw [hu] at s
      cases ty <;> first | (cases ht; done) | exact key _ s
    · rename_i e hu; rw [hu] at s
      cases ty <;> first | (cases ht; done) | exact key _ s
    · rename_i fs hu; rw [hu] at s
      obtain ⟨L, rfl, s⟩ := s
      have := key L s
      cases ty with
      | nil => have h0 : L = [] := this; rw [h0]; rfl
      | cons a r => exact ⟨L, rfl, this⟩
      | _ => cases hfl : fs.toList <;> rw [hfl] at ht <;> cases ht
    · cases ht

end Go.Proofs.YtmlfcopllfdjfaaGreat.Am
