/- RegionNobody: of every letter and every order a nil region posts, holds, tells nothing, and the run of a region of its own comes out as it must. No condition. -/
import Derived.Test.YtmlfcopllfdjfaaGreatRows
import Derived.Test.YtmlfcopllfdjfaaGreatAm31
import Derived.Test.YtmlfcopllfdjfaaGreatRnK0
import Derived.ProofKit
namespace Go.Proofs.YtmlfcopllfdjfaaGreat
open Go.ChangeShapes Go.WideShapes Go.ChangeAt Go.RowKit

theorem rn_own : ownKnob Tryz.prog.godebug = none := by kernel_rfl

set_option maxRecDepth 100000 in
theorem rn_runs : Am.runsTrue Am.Rn.env 1000 3 (Am.argAVs [some 17, none] 0) = true := by decide +kernel

theorem rn_calls (H : Type) (enc : TypeId × Value → H) : Am.CallsTrue enc Tryz.prog 3 Tryz.f3 :=
  Am.callsTrue_of_runs (sh := [some 17, none]) Am.Rn.env_ok (by kernel_rfl) (by kernel_rfl) rn_runs

set_option maxRecDepth 100000 in
theorem regionNobody_lifted (os : Os) (started : os.Started) (H : Type) (enc : TypeId × Value → H) :
    ReturnsInHanded {} Tryz.checked os 3 .any (Rows.regionNobodySpec.pre6 enc Tryz.prog Tryz.f3 Rows.regionNobodyRow.domain false) (Rows.regionNobodySpec.post enc Tryz.prog Tryz.f3 false true false false) := by
  refine Am.lifted_true (C := Tryz.checked) (tb := 4) rn_own started (by kernel_rfl) Tryz.func3 (by kernel_rfl) (by kernel_rfl) (by kernel_rfl) (by kernel_rfl) rfl (fun ds hd => ?_) ?_ (rn_calls H enc)
  · match ds, hd with
    | [a, b], _ => rfl
  · exact ChangeSpec.witness6 (enc := enc) (C := Tryz.checked) false ⟨#[], #[.agg #[.int .i64 0, .int .i64 0, .int .i64 0, .slice none 0 0, .int .i64 0, .int .i64 0, .int .i64 0, .int .i64 0, .int .i64 0, .int .i64 0, .int .i64 0, .string "".toUTF8, .slice none 0 0, .int .i64 0, .int .i64 0, .int .i64 0, .int .i64 0], .int .i64 0], []⟩ 8 (by kernel_rfl) (by kernel_rfl) (by kernel_rfl) (by kernel_rfl)

theorem regionNobody_holds : Rows.RegionNobodySaid :=
  OpenClaim.holds_of_wide 3 Tryz.f3 rfl rfl rfl rfl rfl rfl rfl ⟨rfl, rfl, rfl, rfl, rfl⟩ rfl rfl rfl rfl rfl (by kernel_rfl) Tryz.func3 (by kernel_rfl)
    (of_decide_eq_true (by kernel_rfl)) (by unfold Func.isWrapper; first | (rw [if_pos (by decide +kernel)]; kernel_rfl) | (rw [if_neg (by decide +kernel)]; exact ⟨rfl, rfl⟩))
    (fun os started H enc _ => regionNobody_lifted os started H enc)
#print axioms regionNobody_holds

end Go.Proofs.YtmlfcopllfdjfaaGreat
