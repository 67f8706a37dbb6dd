/- Own work. A part of the proof of a law of this seat: this seat's functions, by the machine, and the plain law -/
import Derived.Shelf.Strings.Builder1
import Derived.Test.YtmljbiijlljhfaaProg
import Derived.Test.YtmljbiijlljhfaaSb
/- strings.Builder's String in this program: the library's contract at this program's numbers. -/
namespace Go.Proofs
open Go.Shelf Go.RowKit
def Try.ren169 : Go.Shelf.Ren := ⟨fun | 169 => 27 | n => n, fun | 70 => 45 | 9 => 9 | 0 => 0 | 72 => 47 | 37 => 22 | 127 => 61 | 3 => 3 | 5 => 5 | n => n, fun n => n⟩
theorem Try.lays169 : Lays.n169 Try.prog Try.ren169 where
  mixed := by kernel_rfl
  f169 := Try.func27.trans (congrArg some (by kernel_rfl))
  t0 := Try.underlying0
  a0 := Try.isAgg0
  z0 := Try.sizeOf0
  v0 := Try.zeroValue0
  t3 := Try.underlying3
  a3 := Try.isAgg3
  z3 := Try.sizeOf3
  v3 := Try.zeroValue3
  t9 := Try.underlying9
  a9 := Try.isAgg9
  z9 := Try.sizeOf9
  v9 := Try.zeroValue9
  t37 := Try.underlying22
  a37 := Try.isAgg22
  z37 := Try.sizeOf22
  v37 := Try.zeroValue22
  t70 := Try.underlying45
  a70 := Try.isAgg45
  z70 := Try.sizeOf45
  v70 := Try.zeroValue45
  t72 := Try.underlying47
  a72 := Try.isAgg47
  z72 := Try.sizeOf47
  v72 := Try.zeroValue47
  t127 := Try.underlying61
  a127 := Try.isAgg61
  z127 := Try.sizeOf61
  v127 := Try.zeroValue61
theorem Try.Builder_Extra_169 : Builder.Extra Try.prog Try.ren169 where
  sizeBuilder := by kernel_rfl
  liesBuilder := by kernel_rfl
  t5 := Try.underlying5
  a5 := Try.isAgg5
  z5 := Try.sizeOf5
  v5 := Try.zeroValue5
  infoByte := by kernel_rfl
  cellsByte := by kernel_rfl
  sizeByte := by kernel_rfl
  neB5 := by decide
theorem Try.bd_string {B b : Nat} {xs : List Int} {w : World} (h : Sx.Bd 47 5 B b xs w) (hB : B ≤ w.heap.size) :
    Calls Try.prog 27 [.pointer (some ⟨b, 0, none⟩)].toArray w (Sx.Ret fun v w' => v = .string (Sx.strOf xs) ∧ Below B w w') :=
  Sx.bd_string (Any.Builder_String_any Try.lays169 Try.Builder_Extra_169) h hB
end Go.Proofs
