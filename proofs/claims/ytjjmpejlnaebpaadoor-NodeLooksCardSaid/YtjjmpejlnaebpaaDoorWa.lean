/- Own work. A part of the proof of a law of this seat: this seat's functions, by the machine, and the plain law -/
import Derived.Test.YtjjmpejlnaebpaaDoorMe
import Derived.Test.YtjjmpejlnaebpaaDoorSb
import Derived.Test.YtjjmpejlnaebpaaDoorProg
namespace Go.Mx
set_option linter.unusedVariables false
set_option linter.unusedSimpArgs false
open Go Go.RowKit Go.Sx Go.Proofs
set_option maxRecDepth 100000
abbrev U8 := T.int .u8
abbrev I64 := T.int .i64
abbrev BL := T.sl (T.int .u8)
abbrev HT := T.pair I64 (.int .u64)
abbrev LT := T.pair I64 (T.pair I64 HT)
abbrev NT := T.pair I64 (T.arr 16 LT)
def all : FuncId → List Nat := fun _ => List.range 60
instance gI : Glb := ⟨fun _ => none⟩
def lvN : Tl := ⟨fun _ => none, []⟩
noncomputable def W (f : FuncId) : Summ := wideS Tryd.prog all 300 30 f
theorem mixed : Tryd.prog.follows .mixedOrders = true := by kernel_rfl
theorem noNG_prog : noNG Tryd.prog = true := by kernel_rfl
theorem W_ok (f : FuncId) : SumOk Tryd.prog f (W f) := wideS_ok mixed noNG_prog all 300 30 f
theorem part_0 {R : Type} (K : KV R) : (W 17).run [.dat I64 3, .dat I64 0, .dat LT (1, 12, 0, 0), .dat I64 10, .dat LT (2, 0, 4, 1)] [] K = K (AV.tup [AV.dat (T.pair (T.int IntKind.i64) (T.arr (16 : Nat) (T.pair (T.int IntKind.i64) (T.pair (T.int IntKind.i64) (T.pair (T.int IntKind.i64) (T.int IntKind.u64)))))) ((3 : Int), List.set (List.set (List.replicate (16 : Nat) ((0 : Int), (0 : Int), (0 : Int), (0 : Int))) (0 : Nat) ((1 : Int), (12 : Int), (0 : Int), (0 : Int))) (10 : Nat) ((2 : Int), (0 : Int), (4 : Int), (1 : Int))), AV.dat (T.int IntKind.i64) (0 : Int)]) [] := by kernel_rfl
theorem itoa_0 {R : Type} (K : KV R) : (W 38).run [.dat I64 12] [] K = K (AV.dat T.str (ByteArray.extract (ByteArray.mk (List.toArray (List.append (List.append [(48 : UInt8), (48 : UInt8), (48 : UInt8), (49 : UInt8), (48 : UInt8), (50 : UInt8), (48 : UInt8), (51 : UInt8), (48 : UInt8), (52 : UInt8), (48 : UInt8), (53 : UInt8), (48 : UInt8), (54 : UInt8), (48 : UInt8), (55 : UInt8), (48 : UInt8), (56 : UInt8), (48 : UInt8), (57 : UInt8), (49 : UInt8), (48 : UInt8), (49 : UInt8), (49 : UInt8), (49 : UInt8), (50 : UInt8), (49 : UInt8), (51 : UInt8), (49 : UInt8), (52 : UInt8), (49 : UInt8), (53 : UInt8), (49 : UInt8), (54 : UInt8), (49 : UInt8), (55 : UInt8), (49 : UInt8), (56 : UInt8), (49 : UInt8), (57 : UInt8), (50 : UInt8), (48 : UInt8), (50 : UInt8), (49 : UInt8), (50 : UInt8), (50 : UInt8), (50 : UInt8), (51 : UInt8), (50 : UInt8), (52 : UInt8)] [(50 : UInt8), (53 : UInt8), (50 : UInt8), (54 : UInt8), (50 : UInt8), (55 : UInt8), (50 : UInt8), (56 : UInt8), (50 : UInt8), (57 : UInt8), (51 : UInt8), (48 : UInt8), (51 : UInt8), (49 : UInt8), (51 : UInt8), (50 : UInt8), (51 : UInt8), (51 : UInt8), (51 : UInt8), (52 : UInt8), (51 : UInt8), (53 : UInt8), (51 : UInt8), (54 : UInt8), (51 : UInt8), (55 : UInt8), (51 : UInt8), (56 : UInt8), (51 : UInt8), (57 : UInt8), (52 : UInt8), (48 : UInt8), (52 : UInt8), (49 : UInt8), (52 : UInt8), (50 : UInt8), (52 : UInt8), (51 : UInt8), (52 : UInt8), (52 : UInt8), (52 : UInt8), (53 : UInt8), (52 : UInt8), (54 : UInt8), (52 : UInt8), (55 : UInt8), (52 : UInt8), (56 : UInt8), (52 : UInt8), (57 : UInt8)]) (List.append [(53 : UInt8), (48 : UInt8), (53 : UInt8), (49 : UInt8), (53 : UInt8), (50 : UInt8), (53 : UInt8), (51 : UInt8), (53 : UInt8), (52 : UInt8), (53 : UInt8), (53 : UInt8), (53 : UInt8), (54 : UInt8), (53 : UInt8), (55 : UInt8), (53 : UInt8), (56 : UInt8), (53 : UInt8), (57 : UInt8), (54 : UInt8), (48 : UInt8), (54 : UInt8), (49 : UInt8), (54 : UInt8), (50 : UInt8), (54 : UInt8), (51 : UInt8), (54 : UInt8), (52 : UInt8), (54 : UInt8), (53 : UInt8), (54 : UInt8), (54 : UInt8), (54 : UInt8), (55 : UInt8), (54 : UInt8), (56 : UInt8), (54 : UInt8), (57 : UInt8), (55 : UInt8), (48 : UInt8), (55 : UInt8), (49 : UInt8), (55 : UInt8), (50 : UInt8), (55 : UInt8), (51 : UInt8), (55 : UInt8), (52 : UInt8)] [(55 : UInt8), (53 : UInt8), (55 : UInt8), (54 : UInt8), (55 : UInt8), (55 : UInt8), (55 : UInt8), (56 : UInt8), (55 : UInt8), (57 : UInt8), (56 : UInt8), (48 : UInt8), (56 : UInt8), (49 : UInt8), (56 : UInt8), (50 : UInt8), (56 : UInt8), (51 : UInt8), (56 : UInt8), (52 : UInt8), (56 : UInt8), (53 : UInt8), (56 : UInt8), (54 : UInt8), (56 : UInt8), (55 : UInt8), (56 : UInt8), (56 : UInt8), (56 : UInt8), (57 : UInt8), (57 : UInt8), (48 : UInt8), (57 : UInt8), (49 : UInt8), (57 : UInt8), (50 : UInt8), (57 : UInt8), (51 : UInt8), (57 : UInt8), (52 : UInt8), (57 : UInt8), (53 : UInt8), (57 : UInt8), (54 : UInt8), (57 : UInt8), (55 : UInt8), (57 : UInt8), (56 : UInt8), (57 : UInt8), (57 : UInt8)])))) (24 : Nat) (26 : Nat))) [] := by kernel_rfl
theorem lead_0 {R : Type} (K : KV R) (key : List Int) (d : Int) : (W 21).run [.dat BL key, .dat I64 d] [] K = bif decide (d < (0 : Int)) then K (AV.dat (T.int IntKind.i64) (-1 : Int)) [] else bif decide ((↑(List.length key) : Int) ≤ d) then K (AV.dat (T.int IntKind.i64) (-1 : Int)) [] else ck ((0 : Int) ≤ d) (Option.bind key[Int.toNat d]? fun x ↦ bif decide ((15 : Int) < x) then K (AV.dat (T.int IntKind.i64) (-1 : Int)) [] else ck ((0 : Int) ≤ d) (Option.bind key[Int.toNat d]? fun x ↦ K (AV.dat (T.int IntKind.i64) (IntKind.wrap IntKind.i64 x)) [])) := by kernel_rfl
theorem known_0 {R : Type} (K : KV R) : (W 16).run [] [] K = K (AV.dat T.bool true) [] := by kernel_rfl
end Go.Mx
