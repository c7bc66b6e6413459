/- The order of the register's step is above 32767: reckoned by the kernel. -/
import Derived.Test.YtkoofoglcheonaaCrc
namespace Go.Proofs.Ytkoofoglcheonaa.Crc
set_option linter.unusedVariables false
set_option linter.unusedSimpArgs false
set_option maxRecDepth 100000 in
theorem noOne_32767 : noOne 32767 1 = true := by decide +kernel
theorem It_one_ne (j : Nat) (h1 : 1 ≤ j) (h2 : j ≤ 32767) : It j 1 ≠ 1 := noOne_spec 32767 1 noOne_32767 j h1 h2
end Go.Proofs.Ytkoofoglcheonaa.Crc
