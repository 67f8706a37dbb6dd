/- Own work. A part of the proof of a law of this seat: a part -/
import Derived.Shelf.Lay
import Derived.Shelf.LaySoft
import Derived.Shelf.Strings.Builder1
import Derived.Test.YtmljbiijlljhfaaProg
import Derived.Test.YtmljbiijlljhfaaSxB
namespace Go.Proofs
open Go.Shelf Go.RowKit
shelf_lay Lays.n169 Nm 169 at Try as Try.lays169
theorem Try.Builder_Extra_169 : Builder.Extra Try.prog Try.lays169_ren where
  sizeBuilder := by kernel_rfl
  liesBuilder := by kernel_rfl
  t5 := Try.underlying5
  a5 := Try.isAgg5
  z5 := Try.sizeOf5
  v5 := Try.zeroValue5
  infoByte := by kernel_rfl
  cellsByte := by kernel_rfl
  sizeByte := by kernel_rfl
  neB5 := by decide
theorem Try.bd_string {B b : Nat} {xs : List Int} {w : World} (h : Sx.Bd 47 5 B b xs w) (hB : B ≤ w.heap.size) :
    Calls Try.prog 27 [.pointer (some ⟨b, 0, none⟩)].toArray w (Sx.Ret fun v w' => v = .string (Sx.strOf xs) ∧ Below B w w') :=
  Sx.bd_string (Any.Builder_String_any Try.lays169 Try.Builder_Extra_169) h hB
end Go.Proofs
