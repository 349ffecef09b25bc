/- An abstract machine for the program's code, and that it is sound: part Am28. -/
import Derived.Test.YtmlfcopllfdjfaaGreatAm27
import Derived.ProofKit
namespace Go.Proofs.YtmlfcopllfdjfaaGreat.Am
open Go.RowKit Go.ChangeShapes Go.WideShapes

/-- Arguments read as they did, where nothing that was there has turned. -/
theorem args_stay {H : Type} {enc : TypeId × Value → H} {P : Program} (hl : laidOutB P = true) {W W' : World} (hb : Below W.heap.size W W') {sp : Nat → Bool} : ∀ {ts : List TypeId} {vs : List Value} {ds : List (DataW H)} {ps : List MemPlace},
    DataW.TrodAll enc P W 0 (fun _ => true) true ts vs ds ps → (∀ t ∈ ts, P.readableRec t = true ∧ t < P.types.size) → (∀ x ∈ ps, x.block < W.heap.size) → (∀ x ∈ ps, sp x.block = true) → DataW.TrodAll enc P W' 0 sp true ts vs ds ps
  | [], [], [], _, h, _, _, _ => h
  | t :: ts, v :: vs, d :: ds, ps, h, ht, hlt, hs => by
    obtain ⟨p, q, h1, h2, rfl⟩ := h
    refine ⟨p, q, WideElems.Trod_stays hl (ht t (.head _)).1 (ht t (.head _)).2 h1 (fun x hx => hb.same (hlt x (List.mem_append_left _ hx))) (fun x hx => hs x (List.mem_append_left _ hx)), ?_, rfl⟩
    exact args_stay hl hb h2 (fun t h => ht t (.tail _ h)) (fun x hx => hlt x (List.mem_append_right _ hx)) (fun x hx => hs x (List.mem_append_right _ hx))
  | [], _ :: _, _, _, h, _, _, _ => h.elim
  | [], [], _ :: _, _, h, _, _, _ => h.elim
  | _ :: _, [], _, _, h, _, _, _ => h.elim
  | _ :: _, _ :: _, [], _, h, _, _, _ => h.elim

/-- The empty map of names. -/
def G0 : Gm := fun _ => none

theorem RH.zero {P : Program} {Θ : Th} {w : World} (hf : Fix Θ.W w) : RH P Θ G0 ⟨0, .e⟩ w := by
  have hg : ∀ i, (Tr.e : Tr AO).get i = none := fun i => by cases i <;> rfl
  refine ⟨fun i o h => ?_, fun i j o o' L L' h => ?_, fun i L h => (by cases h), fun i _ => hg i, hf, fun b ⟨_, _, _, _, _, hL, _⟩ => (by cases hL)⟩
  · rw [show (⟨0, .e⟩ : AH).o.get i = none from hg i] at h; cases h
  · rw [show (⟨0, .e⟩ : AH).o.get i = none from hg i] at h; cases h

theorem Next.below {P : Program} {Θ : Th} {G' : Gm} {h' : AH} {w w' : World} (n : Next P Θ G0 ⟨0, .e⟩ w G' h' w') : Below w.heap.size w w' :=
  ⟨n.stay.os, n.stay.tape, n.stay.output, n.stay.size, fun b hb => n.stay.heap b hb fun ⟨_, _, _, _, _, hL, _⟩ => by cases hL⟩

end Go.Proofs.YtmlfcopllfdjfaaGreat.Am
