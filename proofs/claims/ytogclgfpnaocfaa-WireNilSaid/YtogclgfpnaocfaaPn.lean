/- Own work. A part of the proof of a law of this seat: The plain law: no program in sight. -/
import Derived.Test.YtogclgfpnaocfaaWn
import Derived.Test.YtogclgfpnaocfaaSxP
/- The plain law of WireNil: closed. -/
open Go Go.RowKit Go.Sx
namespace Go.Proofs.Ytogclgfpnaocfaa
theorem WireNil_true : ∃ k, warderlaw01_WireNil k = some true := ⟨100, by kernel_rfl⟩
end Go.Proofs.Ytogclgfpnaocfaa
