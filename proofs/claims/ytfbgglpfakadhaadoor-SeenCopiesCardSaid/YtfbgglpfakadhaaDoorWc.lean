/- Own work. A part of the proof of a law of this seat: this seat's functions, by the machine, and the plain law -/
import Derived.Test.YtfbgglpfakadhaaDoorMe
import Derived.Test.YtfbgglpfakadhaaDoorWb
import Derived.Test.YtfbgglpfakadhaaDoorSb
namespace Go.Mx
set_option linter.unusedVariables false
set_option linter.unusedSimpArgs false
open Go Go.RowKit Go.Sx Go.Proofs
set_option maxRecDepth 100000
abbrev U8 := T.int .u8
abbrev U64 := T.int .u64
abbrev I64 := T.int .i64
abbrev BL := T.sl (T.int .u8)
def asc : List Int := [0, 0, 0, 0, 0, 0, 0, 0, 0, 1, 1, 1, 1, 1, 0, 0, 0, 0, 0, 0, 0, 0, 0, 0, 0, 0, 0, 0, 0, 0, 0, 0, 1, 0, 0, 0, 0, 0, 0, 0, 0, 0, 0, 0, 0, 0, 0, 0, 0, 0, 0, 0, 0, 0, 0, 0, 0, 0, 0, 0, 0, 0, 0, 0, 0, 0, 0, 0, 0, 0, 0, 0, 0, 0, 0, 0, 0, 0, 0, 0, 0, 0, 0, 0, 0, 0, 0, 0, 0, 0, 0, 0, 0, 0, 0, 0, 0, 0, 0, 0, 0, 0, 0, 0, 0, 0, 0, 0, 0, 0, 0, 0, 0, 0, 0, 0, 0, 0, 0, 0, 0, 0, 0, 0, 0, 0, 0, 0, 0, 0, 0, 0, 0, 0, 0, 0, 0, 0, 0, 0, 0, 0, 0, 0, 0, 0, 0, 0, 0, 0, 0, 0, 0, 0, 0, 0, 0, 0, 0, 0, 0, 0, 0, 0, 0, 0, 0, 0, 0, 0, 0, 0, 0, 0, 0, 0, 0, 0, 0, 0, 0, 0, 0, 0, 0, 0, 0, 0, 0, 0, 0, 0, 0, 0, 0, 0, 0, 0, 0, 0, 0, 0, 0, 0, 0, 0, 0, 0, 0, 0, 0, 0, 0, 0, 0, 0, 0, 0, 0, 0, 0, 0, 0, 0, 0, 0, 0, 0, 0, 0, 0, 0, 0, 0, 0, 0, 0, 0, 0, 0, 0, 0, 0, 0, 0, 0, 0, 0, 0, 0, 0, 0, 0, 0, 0, 0]
def pow10 : List Int := [1, 10, 100, 1000, 10000, 100000, 1000000, 10000000, 100000000, 1000000000, 10000000000, 100000000000, 1000000000000, 10000000000000, 100000000000000, 1000000000000000, 10000000000000000, 100000000000000000, 1000000000000000000, 10000000000000000000]
instance gI : Glb := ⟨fun g => match g with | 0 => some ⟨.arr 256 U8, asc⟩ | 1 => some ⟨.arr 20 U64, pow10⟩ | _ => none⟩
def all : FuncId → List Nat := fun _ => List.range 60
theorem mixed : Tryd.prog.follows .mixedOrders = true := by kernel_rfl
theorem noNG_prog : noNG Tryd.prog = true := by kernel_rfl
noncomputable def LJ : List (FuncId × Summ) := [(43, FJ), (39, FI), (53, cloneS)]
theorem cl_ok : SumOk Tryd.prog 53 cloneS := cloneS_ok Tryd.func53 (by kernel_rfl) rfl (by kernel_rfl) (by kernel_rfl)
theorem allJ : AllOk Tryd.prog LJ := ⟨FJ_ok noNG_prog, FI_ok noNG_prog (by rfl), cl_ok, trivial⟩
noncomputable def W (f : FuncId) : Summ := wideM Tryd.prog LJ all 300 30 f
theorem W_ok (f : FuncId) : SumOk Tryd.prog f (W f) := wideM_ok mixed noNG_prog allJ all 300 30 f
end Go.Mx
