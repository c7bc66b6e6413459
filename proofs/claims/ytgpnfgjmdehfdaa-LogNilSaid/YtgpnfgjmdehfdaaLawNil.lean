/- LogNil, walked whole. -/
import Derived.Test.YtgpnfgjmdehfdaaNilA
import Derived.Test.YtgpnfgjmdehfdaaAwakeB
namespace Go.Proofs.Ytgpnfgjmdehfdaa
set_option linter.unusedVariables false
set_option linter.unusedSimpArgs false
open Go.RowKit Go.Proofs.YtgpnfgjmdehfdaaW.PrintWords

theorem logNil_walk (W : World) {x : Act10} {cs : List Value} (hA : actK.K W x cs) (hf : x.fits) : Calls Try.prog 3 #[.agg cs.toArray] W fun e w' => e = .returned (.bool true) ∧ Below W.heap.size W w' :=
  (logNil_any awake10_any hA hf).mono fun _ _ h => ⟨h.1, h.2.out⟩
end Go.Proofs.Ytgpnfgjmdehfdaa
