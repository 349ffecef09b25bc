/- lives(): the closed run of the law's own desk returns true. The kernel runs the abstract machine on it. -/
import Derived.Test.YtmlfcopllfdjfaaGreatAm36
import Derived.Test.YtmlfcopllfdjfaaGreatDnL1
namespace Go.Proofs.YtmlfcopllfdjfaaGreat.Am

set_option maxRecDepth 100000 in
theorem desk_lives : runsB (Env.of Dn.env) 1000 15 true = true := by decide +kernel

end Go.Proofs.YtmlfcopllfdjfaaGreat.Am
