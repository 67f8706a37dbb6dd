/- Own work. A part of the proof of a law of this seat: this seat's functions, by the machine, and the plain law -/
import Derived.Test.YtkmabfamdonfoaaDoorMe
import Derived.Test.YtkmabfamdonfoaaDoorSb
import Derived.Test.YtkmabfamdonfoaaDoorProg
namespace Go.Mx
set_option linter.unusedVariables false
set_option linter.unusedSimpArgs false
open Go Go.RowKit Go.Sx Go.Proofs
set_option maxRecDepth 100000
abbrev U8 := T.int .u8
abbrev U64 := T.int .u64
abbrev I64 := T.int .i64
abbrev BL := T.sl (T.int .u8)
abbrev RowT := T.pair .str (T.pair I64 (T.pair I64 I64))
def rowsV : List RowT.den := [(⟨#[]⟩, 0, 0, 0), (⟨#[117, 115, 101, 114]⟩, 1, 128, 3), (⟨#[108, 111, 103, 111, 110]⟩, 1, 64, 2), (⟨#[98, 105, 103]⟩, 1, 256, 3), (⟨#[107, 101, 121, 114, 105, 110, 103]⟩, 0, 0, 5)]
instance gI : Glb := ⟨fun g => match g with | 0 => some ⟨.arr 5 RowT, rowsV⟩ | _ => none⟩
def all : FuncId → List Nat := fun _ => List.range 60
noncomputable def W (f : FuncId) : Summ := wideS Tryd.prog all 300 30 f
theorem mixed : Tryd.prog.follows .mixedOrders = true := by kernel_rfl
theorem noNG_prog : noNG Tryd.prog = true := by kernel_rfl
theorem W_ok (f : FuncId) : SumOk Tryd.prog f (W f) := wideS_ok mixed noNG_prog all 300 30 f
theorem known_0 {R : Type} (K : KV R) : (W 9).run [] [] K = K (AV.dat T.bool true) [] := by kernel_rfl
end Go.Mx
