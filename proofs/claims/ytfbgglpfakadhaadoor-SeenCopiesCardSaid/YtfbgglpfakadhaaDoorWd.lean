/- Own work. A part of the proof of a law of this seat: this seat's functions, by the machine, and the plain law -/
import Derived.Test.YtfbgglpfakadhaaDoorWc
import Derived.Test.YtfbgglpfakadhaaDoorMe
/- SeenNil by the machine's run. -/
namespace Go.Mx
open Go Go.RowKit Go.Sx Go.Proofs
set_option linter.unusedVariables false
set_option linter.unusedSimpArgs false
set_option maxRecDepth 100000
theorem nil_0 {R : Type} (K : KV R) : (W 7).run [] [] K = K (AV.dat T.bool true) [] := by kernel_rfl
theorem SeenNil_ok : SumOk Tryd.prog 7 (W 7) := W_ok 7
theorem SeenNil_law : (W 7).run [] [] isTrue = some true := nil_0 isTrue
end Go.Mx
