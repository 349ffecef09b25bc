/- An abstract machine for the program's code, and that it is sound: part Am31. -/
import Derived.Test.YtmlfcopllfdjfaaGreatAm30
namespace Go.Proofs.YtmlfcopllfdjfaaGreat.Am
open Go.RowKit Go.ChangeShapes Go.WideShapes

/-- The shape of a parameter: how many cells a struct or an array has; none: one value. -/
def shapeOf (P : Program) (t : TypeId) : Option Nat := match P.underlying t with
  | some (.struct _) => some (P.cellsOf t)
  | some (.array ..) => some (P.cellsOf t)
  | _ => none

theorem okWide_shaped {P : Program} {w : World} {r : Reach} {base : Nat} {t : TypeId} {v : Value} (h : Value.okWide P w r base t v) :
    (shapeOf P t = none ∧ v.oneCell' = true) ∨ ∃ cs, v = .agg cs ∧ shapeOf P t = some cs.size ∧ ∀ (i : Nat) (u : Value), cs[i]? = some u → u.oneCell' = true := by
  unfold Value.okWide at h
  split at h
  · rename_i hu
    obtain ⟨cs, rfl, hs, ts, _, _, hc⟩ := h
    exact .inr ⟨cs, rfl, by unfold shapeOf; rw [hu, hs], fun i u hu => let ⟨_, _, h⟩ := hc i u hu; cell_one h⟩
  · rename_i hu
    obtain ⟨cs, rfl, hs, ts, _, _, hc⟩ := h
    exact .inr ⟨cs, rfl, by unfold shapeOf; rw [hu, hs], fun i u hu => let ⟨_, _, h⟩ := hc i u hu; cell_one h⟩
  · rename_i h1 h2
    refine .inl ⟨?_, cell_one h⟩
    unfold shapeOf
    split
    · rename_i fs hu; exact absurd hu (h1 fs)
    · rename_i n e hu; exact absurd hu (h2 n e)
    · rfl

theorem shaped_of {P : Program} {w : World} {r : Reach} {base : Nat} : ∀ {ts : List TypeId} {vs : List Value}, ts.length = vs.length →
    (∀ (j : Nat) t v, ts[j]? = some t → vs[j]? = some v → Value.okWide P w r base t v) → Shaped (ts.map (shapeOf P)) vs
  | [], [], _, _ => .nil
  | t :: ts, v :: vs, hl, h => by
    have ht := shaped_of (ts := ts) (vs := vs) (by simpa using hl) (fun j t v h1 h2 => h (j + 1) t v (by simpa using h1) (by simpa using h2))
    rcases okWide_shaped (h 0 t v rfl rfl) with ⟨h1, h2⟩ | ⟨cs, rfl, h1, h2⟩
    · simp only [List.map_cons, h1]; exact .cell h2 ht
    · simp only [List.map_cons, h1]; exact .row h2 ht
  | [], _ :: _, hl, _ => by simp at hl
  | _ :: _, [], hl, _ => by simp at hl

theorem trodAll_len {H : Type} {enc : TypeId × Value → H} {P : Program} {w : World} {b : Nat} {sp : Nat → Bool} {hd : Bool} : ∀ {ts : List TypeId} {vs : List Value} {ds : List (DataW H)} {ps : List MemPlace},
    DataW.TrodAll enc P w b sp hd ts vs ds ps → ts.length = vs.length := by
  intro ts
  induction ts with
  | nil => intro vs ds ps h; obtain ⟨rfl, _⟩ := trodAll_nil h; rfl
  | cons t ts ih =>
    intro vs ds ps h
    obtain ⟨_, _, _, _, _, _, rfl, _, _, _, h2⟩ := trodAll_cons h
    simp [ih h2]

/-- Does the run on opaque arguments answer true? -/
def runsTrue (env : Env) (n f : Nat) (args : List AV) : Bool := match evalF env n f args ⟨0, .e⟩ with
  | .ok (.b true) _ => true
  | _ => false

theorem runsTrue_inv {env : Env} {n f : Nat} {args : List AV} (h : runsTrue env n f args = true) : ∃ h', evalF env n f args ⟨0, .e⟩ = .ok (.b true) h' := by
  unfold runsTrue at h
  split at h
  · exact ⟨_, by assumption⟩
  · cases h

theorem callsTrue_of_runs {H : Type} {enc : TypeId × Value → H} {P : Program} {env : Nat → Option AF} {n f : Nat} {fn : Func} {sh : List (Option Nat)} (henv : ∀ f af, env f = some af → cFun P f = some af) (hmix : P.follows .mixedOrders = true)
    (hsh : fn.params.toList.map (shapeOf P) = sh) (e : runsTrue (Env.of env) n f (argAVs sh 0) = true) : CallsTrue enc P f fn := by
  intro W base args ds ps hval hA
  obtain ⟨h', e⟩ := runsTrue_inv e
  have hS : Shaped sh args.toList := by
    rw [← hsh]
    exact shaped_of (trodAll_len hA) fun j t v h1 h2 => hval j t v (by simpa using h1) (by simpa using h2)
  obtain ⟨c, hone, hrl⟩ := shaped_args hS
  let Θ : Th := ⟨fun i => c.getD i (.bool true), W⟩
  have hΘ : Thin Θ := fun i => by
    show (c.getD i (.bool true)).oneCell' = true
    rw [List.getD_eq_getElem?_getD]
    cases hc : c[i]? with
    | none => rfl
    | some v => exact hone v (List.mem_of_getElem? hc)
  refine (calls_of_evalF hΘ (EnvOK.of henv) hmix e (RH.zero (.refl W _)) (hrl Θ G0 0 fun k v hk => ?_)).mono fun e W' ⟨G', v', he, hv, n1⟩ => ?_
  · show c.getD (0 + k) (.bool true) = v
    rw [List.getD_eq_getElem?_getD, Nat.zero_add, hk]; rfl
  · cases hv
    exact ⟨he, n1.below⟩

end Go.Proofs.YtmlfcopllfdjfaaGreat.Am
