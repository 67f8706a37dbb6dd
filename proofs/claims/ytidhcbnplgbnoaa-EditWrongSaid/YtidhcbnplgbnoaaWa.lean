/- Own work. A part of the proof of a law of this seat: this seat's functions, by the machine, and the plain law -/
import Derived.Test.YtidhcbnplgbnoaaMe
import Derived.Test.YtidhcbnplgbnoaaSb
import Derived.Test.YtidhcbnplgbnoaaProg
namespace Go.Mx
set_option linter.unusedVariables false
set_option linter.unusedSimpArgs false
open Go Go.RowKit Go.Sx Go.Proofs
set_option maxRecDepth 100000
abbrev U8 := T.int .u8
abbrev I64 := T.int .i64
abbrev BL := T.sl (T.int .u8)
def all : FuncId → List Nat := fun _ => List.range 60
def wrt : FuncId → List Nat := fun f => match f with | 3 => List.range 30 | 5 => List.range 30 | 6 => List.range 30 | 7 => List.range 30 | 8 => List.range 30 | 12 => List.range 30 | 13 => List.range 30 | 16 => List.range 30 | 17 => List.range 30 | 18 => List.range 30 | 22 => List.range 30 | 24 => List.range 30 | 25 => List.range 30 | 28 => List.range 30 | 38 => List.range 30 | 40 => List.range 30 | 50 => List.range 30 | 51 => List.range 30 | 55 => List.range 30 | 61 => List.range 30 | 71 => List.range 30 | 72 => List.range 30 | 73 => List.range 30 | 74 => List.range 30 | _ => []
def lvN : Tl := ⟨fun _ => none, []⟩
def lv82 : Tl := ⟨fun q => match q with | 0 => some [0, 1, 7, 8] | _ => none, []⟩
def lv3 : Tl := ⟨fun q => match q with | 0 => some [1, 3, 5, 7, 9, 10] | _ => none, []⟩
noncomputable def W (f : FuncId) : Summ := wideS Try.prog wrt 300 30 f
theorem mixed : Try.prog.follows .mixedOrders = true := by kernel_rfl
theorem noNG_prog : noNG Try.prog = true := by kernel_rfl
theorem W_ok (f : FuncId) : SumOk Try.prog f (W f) := wideS_ok mixed noNG_prog wrt 300 30 f
theorem new_0 {R : Type} (K : KV R) : (W 10).run [.dat I64 4] [] K = K (AV.tup [AV.ptr (0 : Nat) [], AV.dat (T.int IntKind.i64) (0 : Int)]) [AO.box (87 : Nat) (AV.pr (AV.view (1 : Nat)) (AV.pr AV.nils (AV.dat (T.int IntKind.i64) (0 : Int)))) true, AO.row (89 : Nat) (T.pair (T.pair (T.int IntKind.i64) (T.arr (16 : Nat) (T.pair (T.int IntKind.i64) (T.pair (T.int IntKind.i64) (T.pair (T.int IntKind.i64) (T.int IntKind.u64)))))) (T.pair (T.int IntKind.u64) T.bool)) (List.set (List.set (List.set (List.set (List.replicate (4 : Nat) (((0 : Int), List.replicate (16 : Nat) ((0 : Int), (0 : Int), (0 : Int), (0 : Int))), (0 : Int), false)) (0 : Nat) (((0 : Int), List.replicate (16 : Nat) ((0 : Int), (0 : Int), (0 : Int), (0 : Int))), (1 : Int), false)) (1 : Nat) (((0 : Int), List.replicate (16 : Nat) ((0 : Int), (0 : Int), (0 : Int), (0 : Int))), (1 : Int), false)) (2 : Nat) (((0 : Int), List.replicate (16 : Nat) ((0 : Int), (0 : Int), (0 : Int), (0 : Int))), (1 : Int), false)) (3 : Nat) (((0 : Int), List.replicate (16 : Nat) ((0 : Int), (0 : Int), (0 : Int), (0 : Int))), (1 : Int), false)) Md.own] := by kernel_rfl
theorem known_0 {R : Type} (K : KV R) : (W 9).run [] [] K = K (AV.dat T.bool true) [] := by kernel_rfl
end Go.Mx
