/- Own work. A part of the proof of a law of this seat: The plain law: no program in sight. -/
import Derived.Test.YtmljbiijlljhfaaWn
import Derived.Test.YtmljbiijlljhfaaSxP
/- The plain law of NibbleNil: closed. -/
open Go Go.RowKit Go.Sx
namespace Go.Proofs.Ytmljbiijlljhfaa
theorem NibbleNil_true : ∃ k, warderlaw02_NibbleNil k = some true := ⟨200, by kernel_rfl⟩
end Go.Proofs.Ytmljbiijlljhfaa
