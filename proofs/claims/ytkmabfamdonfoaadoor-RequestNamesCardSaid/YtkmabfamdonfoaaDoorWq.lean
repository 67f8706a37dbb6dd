/- Own work. A part of the proof of a law of this seat: this seat's functions, by the machine, and the plain law -/
import Derived.Test.YtkmabfamdonfoaaDoorMe
import Derived.Test.YtkmabfamdonfoaaDoorRows
import Derived.Test.YtkmabfamdonfoaaDoorWa
namespace Go.Mx
set_option linter.unusedVariables false
open Go Go.RowKit Go.Sx Go.Proofs Go.Proofs.YtkmabfamdonfoaaDoor
set_option maxRecDepth 100000
theorem gl_ok {w : World} (h : laidMet Tryd.prog [("warder/types.rows", Rows.laid_warder_types_rows)] w) : GlR (cx (fun _ => False) [] (fun _ => ⟨none, 0, 0, 0⟩) w) := by
  intro g z hz
  by_cases e0 : g = 0
  · subst e0
    obtain rfl := Option.some.inj (show some (⟨.arr 5 RowT, rowsV⟩ : (t : T) × t.den) = some z from hz)
    exact gl_one h (n := "warder/types.rows") (d := Rows.laid_warder_types_rows) (by simp) (by kernel_rfl) (t := 122) (T' := (⟨.arr 5 RowT, rowsV⟩ : (t : T) × t.den).1) (x := (⟨.arr 5 RowT, rowsV⟩ : (t : T) × t.den).2) (by kernel_rfl) (Dv.arr Tryd.underlying122 (by kernel_rfl) (Dv.struct Tryd.underlying112 (by kernel_rfl) (DvF.cons rfl (Dv.str Tryd.underlying9 (by kernel_rfl)) (DvF.cons rfl (Dv.int Tryd.underlying3 (by kernel_rfl)) (DvF.cons rfl (Dv.int Tryd.underlying3 (by kernel_rfl)) (DvF.one rfl (Dv.int Tryd.underlying3 (by kernel_rfl)))))))) (by kernel_rfl)
  exfalso
  have : (Glb.gl g : Option ((t : T) × t.den)) = none := by
    show gI.gl g = none
    unfold gI
    dsimp only
    split
    · exact absurd rfl e0
    · rfl
  rw [this] at hz; cases hz
end Go.Mx
